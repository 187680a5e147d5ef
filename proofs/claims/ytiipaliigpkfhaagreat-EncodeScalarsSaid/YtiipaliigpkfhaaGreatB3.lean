/- Part 12: what an operation that changes nothing answers, as a function. -/
import Derived.Test.YtiipaliigpkfhaaGreatB2
set_option linter.unusedVariables false
set_option linter.unusedSimpArgs false
namespace Go.Proofs.YtiipaliigpkfhaaGreat.Ab
open Go Go.RowKit

section
variable {P : Program} {o : Oper} {T : List AV} {H : AHeap}

/-- A scalar answer. -/
def scOf : Option Value → Option AV
  | some v => if plain v then some (.sc v) else none
  | none => none

theorem scOf_some {r : Option Value} {x : AV} (h : scOf r = some x) : ∃ v, r = some v ∧ plain v = true ∧ x = .sc v := by
  cases r with
  | none => cases h
  | some v =>
    simp only [scOf] at h
    split at h
    · rename_i hp; exact ⟨v, rfl, hp, (Option.some.inj h).symm⟩
    · cases h

theorem rel_scal {E : Env} {x : AV} {v u : Value} (h : scal x = some u) (hr : Rel E x v) : v = u := by
  rw [scal_eq h] at hr
  cases hr
  rfl

/-- The model's own answers, behind names. -/
def binE (P : Program) (op : BinOp) (t : TypeId) (p q : Operand) (v u : Value) : Option Value := pureEval P (do eqGuard op t p q v u; binOp op t v u)
def unE (P : Program) (op : UnOp) (v : Value) : Option Value := pureEval P (Op.unary op v)
def cvE (P : Program) (s d : TypeId) (v : Value) : Option Value := pureEval P (convert s d v)
def ixE (P : Program) (t : TypeId) (v u : Value) : Option Value := pureEval P (Instr.index t v u)

def binS (P : Program) (op : BinOp) (t : TypeId) (p q : Operand) (x y : AV) : Option AV :=
  match x, y with
  | .sc v, .sc u => scOf (binE P op t p q v u)
  | x, y =>
    match op with
    | .eql => match pureEval P (underlying t), nilA x y with
      | some d, some b => if nilTy x d then some (.sc (.bool b)) else none
      | _, _ => none
    | .neq => match pureEval P (underlying t), nilA x y with
      | some d, some b => if nilTy x d then some (.sc (.bool (!b))) else none
      | _, _ => none
    | _ => none

theorem binS_sound {op : BinOp} {t t2 : TypeId} {p q : Operand} {x : AV} (ho : o.op = .binOp op t p q t2) (h : binS P op t p q (opdA T p) (opdA T q) = some x) : OpS P o T H x := by
  unfold binS at h
  split at h
  · rename_i v u hv hu
    obtain ⟨r, hr, hp, rfl⟩ := scOf_some h
    refine opS_bin ho hp fun E v' u' h1 h2 => ?_
    rw [hv] at h1
    rw [hu] at h2
    cases h1
    cases h2
    exact hr
  · split at h
    · split at h
      · rename_i d b hd hb
        split at h
        · rename_i hn
          simp only [Option.some.injEq] at h
          subst h
          have := opS_nil (H := H) ho (.inl rfl) hd hn hb
          simpa using this
        · cases h
      · cases h
    · split at h
      · rename_i d b hd hb
        split at h
        · rename_i hn
          simp only [Option.some.injEq] at h
          subst h
          have := opS_nil (H := H) ho (.inr rfl) hd hn hb
          simpa using this
        · cases h
      · cases h
    · cases h

/-- One scalar operand. -/
theorem opS_one {p : Operand} {x : AV} {f : Value → Sem Value} (hrun : ∀ ρ, execOp ρ o = (do pure (.value (← f (ρ p))))) (hmem : p ∈ o.op.operands) {v : Value} (hv : opdA T p = .sc v) (h : scOf (pureEval P (f v)) = some x) : OpS P o T H x := by
  obtain ⟨r, hr, hp, rfl⟩ := scOf_some h
  refine opS_intro fun E w0 w ρ hg ht => ⟨r, ?_, .sc r hp⟩
  have hx := ht p hmem
  rw [hv] at hx
  generalize hq : ρ p = u at hx
  cases hx
  rw [hrun, hq, Sem.run_bind, pureEval_run hr]
  rfl

theorem opS_two {p q : Operand} {x : AV} {f : Value → Value → Sem Value} (hrun : ∀ ρ, execOp ρ o = (do pure (.value (← f (ρ p) (ρ q))))) (hmem : p ∈ o.op.operands) (hmem2 : q ∈ o.op.operands) {v u : Value} (hv : opdA T p = .sc v) (hu : opdA T q = .sc u)
    (h : scOf (pureEval P (f v u)) = some x) : OpS P o T H x := by
  obtain ⟨r, hr, hp, rfl⟩ := scOf_some h
  refine opS_intro fun E w0 w ρ hg ht => ⟨r, ?_, .sc r hp⟩
  have hx := ht p hmem
  rw [hv] at hx
  have hy := ht q hmem2
  rw [hu] at hy
  generalize hq : ρ p = a at hx
  generalize hq2 : ρ q = b at hy
  cases hx
  cases hy
  rw [hrun, hq, hq2, Sem.run_bind, pureEval_run hr]
  rfl

/-- Builtins over scalars: len of a string, max, min. -/
def builtinS (P : Program) (b : Builtin) (argTypes : Array TypeId) (ty : TypeId) (vs : Array Value) : Option Value :=
  match pureEval P (builtin b argTypes ty (vs.map fun _ => false) vs) with
  | some (.value v) => some v
  | _ => none

def scals (T : List AV) : List Operand → Option (List Value)
  | [] => some []
  | x :: r => match scal (opdA T x), scals T r with
    | some v, some vs => some (v :: vs)
    | _, _ => none

theorem scals_eq {E : Env} {ρ : Operand → Value} : ∀ {xs : List Operand} {vs : List Value}, (∀ x ∈ xs, Rel E (opdA T x) (ρ x)) → scals T xs = some vs → xs.map ρ = vs
  | [], vs, _, h => by simp [scals] at h; rw [h]; rfl
  | x :: r, vs, ht, h => by
    simp only [scals] at h
    split at h
    · rename_i v us hv hus
      simp only [Option.some.injEq] at h
      subst h
      rw [List.map_cons, rel_scal hv (ht x List.mem_cons_self), scals_eq (fun y hy => ht y (List.mem_cons_of_mem _ hy)) hus]
    · cases h

/-- Which builtins look at no more than their operands' values. -/
def quietB : Builtin → Bool
  | .len | .max | .min => true
  | _ => false

theorem builtin_consts (b : Builtin) (hb : quietB b = true) (at_ : Array TypeId) (ty : TypeId) (cs cs' : Array Bool) (vs : Array Value) : builtin b at_ ty cs vs = builtin b at_ ty cs' vs := by
  cases b <;> first | rfl | simp [quietB] at hb

def callS (P : Program) (o : Oper) (c : Call) (T : List AV) : Option AV :=
  match c.callee with
  | .builtin b =>
    if quietB b then
      match scals T c.args.toList with
      | some vs => scOf (builtinS P b c.argTypes o.type vs.toArray)
      | none => match b, c.args.toList, c.argTypes[0]? with
        | .len, [p], some t => match opdA T p, pureEval P (underlying t) with
          | .rsl _ _ n _ _, some (.slice _) => some (.sc (.int .i64 n))
          | .msl _ _ n, some (.slice _) => some (.sc (.int .i64 n))
          | _, _ => none
        | _, _, _ => none
    else none
  | _ => none

theorem callS_sound {c : Call} {x : AV} (ho : o.op = .call c) (h : callS P o c T = some x) : OpS P o T H x := by
  unfold callS at h
  split at h
  · rename_i b hb
    split at h
    · rename_i hq
      split at h
      · rename_i vs hvs
        obtain ⟨r, hr, hp, rfl⟩ := scOf_some h
        refine opS_intro fun E w0 w ρ hg ht => ⟨r, ?_, .sc r hp⟩
        have hargs : c.args.map ρ = vs.toArray := by
          have := scals_eq (fun x hx => ht x (by simp only [ho, Op.operands, Call.operands, hb]; simpa using hx)) hvs
          apply Array.ext'
          simpa using this
        unfold builtinS at hr
        split at hr
        · rename_i v hv
          simp only [Option.some.injEq] at hr
          subst hr
          simp only [execOp, ho, resolve, hb, pure_bind, invoke, hargs]
          rw [builtin_consts b hq _ _ _ (vs.toArray.map fun _ => false)]
          exact pureEval_run hv w
        · cases hr
      · split at h
        · rename_i b' p t hargs hat
          split at h
          · rename_i nl sz n el own e hp hu
            simp only [Option.some.injEq] at h
            subst h
            exact opS_len ho hb (by apply Array.ext'; simpa using hargs) hat ⟨e, hu⟩ hp
          · rename_i l sz n e hp hu
            simp only [Option.some.injEq] at h
            subst h
            exact opS_lenMsl ho hb (by apply Array.ext'; simpa using hargs) hat ⟨e, hu⟩ hp
          · cases h
        · cases h
    · cases h
  · cases h

/-- An array's element, of a value. -/
def indexS (P : Program) (t : TypeId) (x y : AV) : Option AV :=
  match x, y with
  | .sc v, .sc u => scOf (ixE P t v u)
  | _, _ => none

def stepS (P : Program) (o : Oper) (T : List AV) (H : AHeap) : Option AV :=
  match o.op with
  | .move x => some (opdA T x)
  | .assign x => some (opdA T x)
  | .pick c a b => match opdA T c with
    | .sc (.bool t) => some (if t then opdA T a else opdA T b)
    | _ => none
  | .load t p => (cellsOfA H (opdA T p)).bind (loadA P t)
  | .fieldAddr s p f => (fieldOff P s f).bind fun n => moveA n (opdA T p)
  | .nilCheck p => match opdA T p with
    | .ptr l o => some (.ptr l o)
    | .rptr cs => some (.rptr cs)
    | .fn (.func f) a b => some (.fn (.func f) a b)
    | _ => none
  | .extract t i => match opdA T t with
    | .tup xs => xs[i]?
    | _ => none
  | .makeFunc fn first caps => some (.fn fn (first.toList.map (opdA T)) (caps.toList.map (opdA T)))
  | .makeInterface t p => match pureEval P (underlying t) with
    | some (.interface _) => none
    | some _ => some (.ifc t (opdA T p))
    | none => none
  | .indexAddr t p q => match pureEval P (underlying t), opdA T p, opdA T q with
    | some (.slice e), .rsl _ sz n el _, .sc (.int _ i) => if pureEval P (Go.sizeOf e) = some sz ∧ 0 ≤ i ∧ i < n then some (.rptr (el i.toNat)) else none
    | some (.slice e), .msl l sz n, .sc (.int _ i) => if pureEval P (Go.sizeOf e) = some sz ∧ 0 ≤ i ∧ i < n then some (.ptr l (i.toNat * sz)) else none
    | _, _, _ => none
  | .slice t p lo hi mx => match pureEval P (underlying t), opdA T p with
    | some (.slice e), .rsl nl sz n el _ =>
      match optInt T lo, optInt T hi, optInt T mx with
      | some l, some h, some none =>
        if pureEval P (Go.sizeOf e) = some sz ∧ 0 ≤ l.getD 0 ∧ l.getD 0 ≤ h.getD n ∧ h.getD n ≤ n then some (.rsl nl sz ((h.getD n).toNat - (l.getD 0).toNat) (fun i => el (i + (l.getD 0).toNat)) .non) else none
      | some l, some (some h), some (some m) =>
        if pureEval P (Go.sizeOf e) = some sz ∧ 0 ≤ l.getD 0 ∧ l.getD 0 ≤ h ∧ h = m ∧ m ≤ n then some (.rsl nl sz (h.toNat - (l.getD 0).toNat) (fun i => el (i + (l.getD 0).toNat)) .tight) else none
      | _, _, _ => none
    | some .string, .sc (.string s) =>
      match optInt T lo, optInt T hi, optInt T mx with
      | some l, some h, some none => if 0 ≤ l.getD 0 ∧ l.getD 0 ≤ h.getD s.size ∧ h.getD s.size ≤ s.size then some (.sc (.string (s.extract (l.getD 0).toNat (h.getD s.size).toNat))) else none
      | _, _, _ => none
    | _, _ => none
  | .build t ps => match pureEval P (zeroValue t), placesOf P t with
    | some z, some pl => match constA z with
      | .agg zs => (fillA (fun i => pl[i]?) zs (ps.toList.map fun (i, x) => (i, opdA T x))).map .agg
      | _ => none
    | _, _ => none
  | .binOp op t p q _ => binS P op t p q (opdA T p) (opdA T q)
  | .unOp op _ p => match opdA T p with
    | .sc v => scOf (unE P op v)
    | _ => none
  | .convert src dst p => match opdA T p with
    | .sc v => scOf (cvE P src dst v)
    | _ => none
  | .index t p q => indexS P t (opdA T p) (opdA T q)
  | .call c => callS P o c T
  | _ => none

theorem sliceBounds_str {E : Env} {ρ : Operand → Value} {w : World} {lo hi : Option Operand} (htl : ∀ x, lo = some x → Rel E (opdA T x) (ρ x)) (hth : ∀ x, hi = some x → Rel E (opdA T x) (ρ x)) {l h : Option Int} (hl : optInt T lo = some l) (hh : optInt T hi = some h) {n : Nat}
    (h1 : 0 ≤ l.getD 0) (h2 : l.getD 0 ≤ h.getD n) (h3 : h.getD n ≤ n) : (Instr.sliceBounds false n n (lo.map ρ) (hi.map ρ) none).run P w = .ok ((l.getD 0).toNat, (h.getD n).toNat, n) w := by
  unfold Instr.sliceBounds
  rcases optInt_eval hth hh with ⟨rfl, rfl⟩ | ⟨x, k, i, rfl, rfl, hx⟩ <;> rcases optInt_eval htl hl with ⟨rfl, rfl⟩ | ⟨y, k', i', rfl, rfl, hy⟩
  · simp
  · simp only [Option.map_some, Option.map_none, hy, Option.getD_some, Option.getD_none] at *
    simp only [Sem.run_bind, Sem.run_pure, Result.andThen_ok, pure_bind]
    rw [sliceBound_ok (by omega) (by omega)]
    simp
  · simp only [Option.map_some, Option.map_none, hx, Option.getD_some, Option.getD_none] at *
    simp only [Sem.run_bind, Sem.run_pure, Result.andThen_ok, pure_bind]
    rw [sliceBound_ok (by omega) (by omega)]
    simp
  · simp only [Option.map_some, Option.map_none, hx, hy, Option.getD_some, Option.getD_none] at *
    simp only [Sem.run_bind, Sem.run_pure, Result.andThen_ok, pure_bind]
    rw [sliceBound_ok (by omega) (by omega)]
    simp only [Result.andThen_ok, Sem.run_bind]
    rw [sliceBound_ok (by omega) (by omega)]
    simp

theorem opS_sliceStr {t : TypeId} {p : Operand} {lo hi : Option Operand} {s : ByteArray} {l h : Option Int} (ho : o.op = .slice t p lo hi none)
    (hu : pureEval P (underlying t) = some .string) (hp : opdA T p = .sc (.string s)) (hl : optInt T lo = some l) (hh : optInt T hi = some h)
    (h1 : 0 ≤ l.getD 0) (h2 : l.getD 0 ≤ h.getD s.size) (h3 : h.getD s.size ≤ s.size) : OpS P o T H (.sc (.string (s.extract (l.getD 0).toNat (h.getD s.size).toNat))) := by
  refine opS_intro fun E w0 w ρ hg ht => ?_
  have hr := ht p (by simp [ho, Op.operands])
  rw [hp] at hr
  generalize hv : ρ p = v at hr
  cases hr
  refine ⟨_, ?_, .sc _ rfl⟩
  simp only [execOp, ho, Instr.sliceAt, hv, Sem.run_bind, pureEval_run hu, Result.andThen_ok, Instr.slice, Option.map_none, Option.isSome_none, Bool.false_eq_true, if_false]
  rw [sliceBounds_str (fun x e => ht x (by simp [ho, Op.operands, e])) (fun x e => ht x (by simp [ho, Op.operands, e])) hl hh h1 h2 h3]
  simp only [Result.andThen_ok, Sem.run_pure, Sem.run_bind]

theorem optInt_none {q : Option Operand} (h : optInt T q = some none) : q = none := by
  cases q with
  | none => rfl
  | some x => simp only [optInt] at h; split at h <;> simp at h

theorem optInt_some {q : Option Operand} {i : Int} (h : optInt T q = some (some i)) : ∃ x, q = some x := by
  cases q with
  | none => simp [optInt] at h
  | some x => exact ⟨x, rfl⟩

theorem stepS_sound {x : AV} (h : stepS P o T H = some x) : OpS P o T H x := by
  unfold stepS at h
  split at h
  · rename_i y ho; cases h; exact opS_move (.inl ho)
  · rename_i y ho; cases h; exact opS_move (.inr ho)
  · rename_i c a b ho
    split at h
    · rename_i t hc; cases h; exact opS_pick ho hc
    · cases h
  · rename_i t p ho
    cases hc : cellsOfA H (opdA T p) with
    | none => rw [hc] at h; cases h
    | some cs => rw [hc] at h; exact opS_load ho hc h
  · rename_i s p f ho
    cases hn : fieldOff P s f with
    | none => rw [hn] at h; cases h
    | some n => rw [hn] at h; exact opS_fieldAddr ho hn h
  · rename_i p ho
    split at h
    · rename_i l o' hp; cases h; exact opS_nilCheck ho hp (.inl ⟨_, _, rfl⟩)
    · rename_i cs hp; cases h; exact opS_nilCheck ho hp (.inr (.inl ⟨_, rfl⟩))
    · rename_i f a b hp; cases h; exact opS_nilCheck ho hp (.inr (.inr ⟨_, _, _, rfl⟩))
    · cases h
  · rename_i t i ho
    split at h
    · rename_i xs hx; exact opS_extract ho hx h
    · cases h
  · rename_i fn first caps ho; cases h; exact opS_makeFunc ho
  · rename_i t p ho
    split at h
    · cases h
    · rename_i d hne hd; cases h; exact opS_makeInterface ho ⟨_, hd, fun ms e => hne ms e⟩
    · cases h
  · rename_i t p q ho
    split at h
    · rename_i e nl sz n el own k i hu hp hq
      split at h
      · rename_i hc; cases h; exact opS_indexAddr ho hu hc.1 hp hq hc.2.1 hc.2.2
      · cases h
    · rename_i e l sz n k i hu hp hq
      split at h
      · rename_i hc; cases h; exact opS_indexMsl ho hu hc.1 hp hq hc.2.1 hc.2.2
      · cases h
    · cases h
  · rename_i t p lo hi mx ho
    split at h
    · rename_i e nl sz n el own hu hp
      split at h
      · rename_i l h' hl hh hm
        have := optInt_none hm
        subst this
        split at h
        · rename_i hc; cases h; exact opS_slice ho hu hc.1 hp hl hh hc.2.1 hc.2.2.1 hc.2.2.2
        · cases h
      · rename_i l h' m hl hh hm
        obtain ⟨q1, rfl⟩ := optInt_some hh
        obtain ⟨q2, rfl⟩ := optInt_some hm
        split at h
        · rename_i hc; cases h; exact opS_slice3 ho hu hc.1 hp hl hh hm hc.2.1 hc.2.2.1 hc.2.2.2.1 hc.2.2.2.2
        · cases h
      · cases h
    · rename_i s hu hp
      split at h
      · rename_i l h' hl hh hm
        have := optInt_none hm
        subst this
        split at h
        · rename_i hc; cases h; exact opS_sliceStr ho hu hp hl hh hc.1 hc.2.1 hc.2.2
        · cases h
      · cases h
    · cases h
  · rename_i t ps ho
    split at h
    · rename_i z pl hz hpl
      split at h
      · rename_i zs hzs
        rw [Option.map_eq_some_iff] at h
        obtain ⟨cs, hcs, rfl⟩ := h
        exact opS_build ho hz hzs hpl hcs
      · cases h
    · cases h
  · rename_i op t p q t2 ho; exact binS_sound ho h
  · rename_i op t p ho
    split at h
    · rename_i v hv; exact opS_one (f := Op.unary op) (fun ρ => by simp [execOp, ho]) (by simp [ho, Op.operands]) hv h
    · cases h
  · rename_i s d p ho
    split at h
    · rename_i v hv; exact opS_one (f := convert s d) (fun ρ => by simp [execOp, ho]) (by simp [ho, Op.operands]) hv h
    · cases h
  · rename_i t p q ho
    unfold indexS at h
    split at h
    · rename_i v u hv hu; exact opS_two (f := Instr.index t) (fun ρ => by simp [execOp, ho]) (by simp [ho, Op.operands]) (by simp [ho, Op.operands]) hv hu h
    · cases h
  · rename_i c ho; exact callS_sound ho h
  · cases h
end
end Go.Proofs.YtiipaliigpkfhaaGreat.Ab
