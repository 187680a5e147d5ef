/- Part 19: an evaluator for what is known whole, and what its answers mean. -/
import Derived.Test.YtiipaliigpkfhaaGreatB9
set_option linter.unusedVariables false
set_option linter.unusedSimpArgs false
namespace Go.Proofs.YtiipaliigpkfhaaGreat.Ab
open Go Go.RowKit

/-- An answer, or where it went astray. -/
inductive Ev (α : Type) where
  | ok (a : α)
  | bad (tr : List Nat)

/-! ### Maps -/
def mapT (P : Program) (t : TypeId) (k : Value) : Option (TypeId × TypeDesc × Value) :=
  match pureEval P (underlying t) with
  | some (.map kt et) => match pureEval P (underlying kt), pureEval P (zeroValue et), pureEval P (Instr.checkKey true 10000 kt k), pureEval P (Instr.checkKey false 10000 kt k) with
    | some d, some z, some _, some _ => some (kt, d, z)
    | _, _, _, _ => none
  | _ => none

theorem mapT_ok {P : Program} {t kt : TypeId} {d : TypeDesc} {z k : Value} (h : mapT P t k = some (kt, d, z)) : ∃ et, MapT P t kt et d z k := by
  unfold mapT at h
  split at h
  · rename_i kt' et hu
    split at h
    · rename_i d' z' a b h1 h2 h3 h4
      cases h
      exact ⟨et, hu, h1, h2, fun b => match b with | true => h3 | false => h4⟩
    · cases h
  · cases h

def stepM (P : Program) (o : Oper) (T : List AV) (H : AHeap) : Option (AV × AHeap × List Nat) :=
  match o.op with
  | .makeMap _ none => some (.mapr H.length, H ++ [.map []], [])
  | .lookup t p q ok => match opdA T p, keyV (opdA T q) with
    | .mapr l, some k => match H[l]?, mapT P t k with
      | some (.map es), some (kt, d, z) => match findKeyA P kt d k es with
        | some r => match gotA es z r with
          | some x => some (if ok then .tup [x, .sc (.bool r.isSome)] else x, H, [])
          | none => none
        | none => none
      | _, _ => none
    | _, _ => none
  | .mapUpdate t p q s => match opdA T p, keyV (opdA T q) with
    | .mapr l, some k => match H[l]?, mapT P t k with
      | some (.map es), some (kt, d, z) => match findKeyA P kt d k es with
        | some none => some (.any, H.set l (.map (upd es k (opdA T s) none)), [l])
        | some (some i) => match es[i]? with
          | some e => if Instr.sameBits 10000 e.1 k = true then some (.any, H.set l (.map (upd es k (opdA T s) (some i))), [l]) else none
          | none => none
        | none => none
      | _, _ => none
    | _, _ => none
  | .range t p => match pureEval P (underlying t), opdA T p with
    | some (.map _ _), .mapr l => match H[l]? with
      | some (.map []) => some (.ptr H.length 0, H ++ [.iter l], [])
      | _ => none
    | _, _ => none
  | .convert src dst p => match pureEval P (underlying src), pureEval P (underlying dst), opdA T p with
    | some (.slice e), some .string, .rsl nl sz n el own => if isU8 P e = true ∧ (sz = 1 ∨ n = 0) then match bytesL n el with
        | some ns => some (.sc (.string (strB ns)), H, [])
        | none => none
      else none
    | _, _, _ => none
  | .next p false => match opdA T p with
    | .ptr l 0 => match H[l]? with
      | some (.iter m) => match H[m]? with
        | some (.map []) => some (.tup [.sc (.bool false)], H, [])
        | _ => none
      | _ => none
    | _ => none
  | .call c => match c.callee, c.args.toList, c.argTypes[0]? with
    | .builtin .len, [p], some t => match pureEval P (underlying t), opdA T p with
      | some (.map _ _), .mapr l => match H[l]? with
        | some (.map es) => some (.sc (.int .i64 es.length), H, [])
        | _ => none
      | _, _ => none
    | _, _, _ => none
  | _ => none

theorem stepM_sound {P : Program} {o : Oper} {T : List AV} {H H1 : AHeap} {x : AV} {Wr : List Nat} (h : stepM P o T H = some (x, H1, Wr)) : OpA P o T H x H1 Wr ∧ Keeps H H1 Wr := by
  unfold stepM at h
  split at h
  · rename_i t ho
    cases h
    exact ⟨opA_makeMap ho, .push _ _⟩
  · rename_i t p q ok ho
    split at h
    · rename_i l k hp hk
      split at h
      · rename_i es kt d z hl hT
        obtain ⟨et, hT⟩ := mapT_ok hT
        split at h
        · rename_i r hf
          split at h
          · rename_i y hy
            cases h
            exact ⟨(opA_lookup ho hT hp hl hk hf hy).a, .refl _ _⟩
          · cases h
        · cases h
      · cases h
    · cases h
  · rename_i t p q s ho
    split at h
    · rename_i l k hp hk
      split at h
      · rename_i es kt d z hl hT
        obtain ⟨et, hT⟩ := mapT_ok hT
        split at h
        · rename_i hf
          cases h
          exact ⟨opA_mapUpdate ho hT hp hl hk hf (fun i e => by cases e), .set _ _ _⟩
        · rename_i i hf
          split at h
          · rename_i e he
            split at h
            · rename_i hs
              cases h
              exact ⟨opA_mapUpdate ho hT hp hl hk hf (fun j e' => by cases e'; exact ⟨e, he, hs⟩), .set _ _ _⟩
            · cases h
          · cases h
        · cases h
      · cases h
    · cases h
  · rename_i t p ho
    split at h
    · rename_i kt et l hu hp
      split at h
      · rename_i hl; cases h; exact ⟨opA_range (es := []) ho hu hp hl, .push _ _⟩
      · cases h
    · cases h
  · rename_i src dst p ho
    split at h
    · rename_i e nl sz n el own hu1 hu2 hp
      split at h
      · rename_i h8
        split at h
        · rename_i ns hns; cases h; exact ⟨(opS_bytesStr ho hu1 hu2 (isU8_eq h8.1) hp h8.2 hns).a, .refl _ _⟩
        · cases h
      · cases h
    · cases h
  · rename_i p ho
    split at h
    · rename_i l hp
      split at h
      · rename_i m hl
        split at h
        · rename_i hm; cases h; exact ⟨opA_next_over ho hp hl hm, .refl _ _⟩
        · cases h
      · cases h
    · cases h
  · rename_i c ho
    split at h
    · rename_i p t hc ha ht
      split at h
      · rename_i kt et l hu hp
        split at h
        · rename_i es hl
          cases h
          exact ⟨(opS_lenMap ho hc (by apply Array.ext'; simpa using ha) ht hu hp hl).a, .refl _ _⟩
        · cases h
      · cases h
    · cases h
  · cases h

/-! ### What may come at any time -/
def samePlain : Value → Value → Bool
  | .bool x, .bool y => x == y
  | .int k x, .int l y => decide (k = l) && decide (x = y)
  | .string s, .string t => decide (s = t)
  | .nilFunc, .nilFunc => true
  | .nilIface, .nilIface => true
  | .pointer none, .pointer none => true
  | .map none, .map none => true
  | .chan none, .chan none => true
  | _, _ => false

theorem samePlain_eq {a b : Value} (h : samePlain a b = true) : a = b ∧ plain b = true := by
  unfold samePlain at h
  split at h <;> simp_all [plain]

/-- A value that is known agrees with what is told. -/
def cellOk : AV → Value → Bool
  | .any, _ => true
  | .sc a, b => samePlain a b
  | .rsl true _ 0 _ .non, .slice none 0 0 => true
  | .rsl true _ 0 _ .tight, .slice none 0 0 => true
  | _, _ => false

theorem cellOk_rel {E : Env} {x : AV} {v : Value} (h : cellOk x v = true) : Rel E x v := by
  unfold cellOk at h
  split at h
  · exact .any _
  · obtain ⟨rfl, hp⟩ := samePlain_eq h; exact .sc _ hp
  · exact .rnil _ _ _ (.inl rfl)
  · exact .rnil _ _ _ (.inr rfl)
  · cases h

def cellsOk : List AV → List Value → Bool
  | [], _ => true
  | x :: r, v :: s => cellOk x v && cellsOk r s
  | _ :: _, [] => false

theorem cellsOk_rel {E : Env} : ∀ {cs : List AV} {vs : List Value}, cellsOk cs vs = true → RelCells E cs vs.toArray
  | [], _, _ => fun j x h => by simp at h
  | x :: r, v :: s, h => by
    simp only [cellsOk, Bool.and_eq_true] at h
    intro j y hy
    cases j with
    | zero => simp at hy; subst hy; exact ⟨v, by simp, cellOk_rel h.1⟩
    | succ j =>
      simp at hy
      obtain ⟨u, hu, hr⟩ := cellsOk_rel h.2 j y hy
      exact ⟨u, by simpa using hu, hr⟩
  | _ :: _, [], h => by simp [cellsOk] at h

/-- What comes to the same wherever it comes; nx: the next label that was kept. -/
def quietF (P : Program) (o : Oper) (T : List AV) (H : AHeap) (nx : Option Nat) : Option (AV × Rd) :=
  match nx with
  | none => none
  | some l => match o.op with
    | .alloc t => match pureEval P (zeroValue t), H[l]? with
      | some z, some (.cells cs) => if cellsOk cs z.cells.toList = true then some (.ptr l 0, [l], some l) else none
      | _, _ => none
    | .buildSlice _ _ _ => match stepX P o T [] with
      | some (x, _, _) => some (x, rd0)
      | none => none
    | .lookup t p q ok => match opdA T p, keyV (opdA T q) with
      | .mapr l, some k => match H[l]?, mapT P t k with
        | some (.map es), some (kt, d, z) => match findKeyA P kt d k es with
          | some r => match gotA es z r with
            | some x => some (if ok then .tup [x, .sc (.bool r.isSome)] else x, [l], none)
            | none => none
          | none => none
        | _, _ => none
      | _, _ => none
    | _ => none

theorem quietF_ok {P : Program} {o : Oper} {T : List AV} {H : AHeap} {nx : Option Nat} {x : AV} {rd : Rd} (h : quietF P o T H nx = some (x, rd)) : (∀ H2 : AHeap, (∀ l ∈ rd.1, H2[l]? = H[l]?) → OpF P o T H2 x rd.2) ∧ nx.isSome = true := by
  unfold quietF at h
  split at h
  · cases h
  · rename_i l
    refine ⟨?_, rfl⟩
    split at h
    · rename_i t ho
      split at h
      · rename_i z cs hz hl
        split at h
        · rename_i hc
          cases h
          intro H2 h2
          have hl2 : H2[l]? = some (.cells cs) := (h2 l (by simp)).trans hl
          intro E w0 w ρ hg hna ht
          have hφ := hna l rfl
          have hrc : RelCells E cs z.cells := by have := cellsOk_rel (E := E) hc; simpa using this
          have hx : (execOp ρ o).run P w = .ok (.value (.pointer (some ⟨w.heap.size, 0, none⟩))) (w.alloc (.cells z.cells t)) := by
            simp only [execOp, ho, Instr.alloc, Sem.run_bind, pureEval_run hz, Result.andThen_ok]
            simp only [newVar, newRow, newObj, Sem.run_bind, Sem.run, Sem.run_pure, Result.andThen_ok]
            rfl
          unfold OpR
          rw [hx]
          refine ⟨E.withφ l w.heap.size, ⟨Env.withφ_le hφ, by rw [alloc_size]; omega, fun hb => Below.heap_alloc w _ _ (hg.ownlt hb), fun {k} hk hne => withφ_ne E (fun e => hne (by rw [e])), fun {b} hb h => ⟨Below.heap_alloc w _ _ hb, fun k ho => (owns_settle ho).elim (h k) (fun e => by omega), fun _ => rfl⟩⟩, hg.settle t hl2 hφ hrc, .ptr _ _ _ (withφ_self _ _ _)⟩
        · cases h
      · cases h
    · rename_i t n ps ho
      split at h
      · rename_i y H' W' hx
        cases h
        intro H2 _
        refine OpA.f ?_
        have hx2 : stepX P o T H2 = some (x, H2, []) := by
          unfold stepX at hx ⊢
          rw [ho] at hx ⊢
          simp only at hx ⊢
          split at hx
          · split at hx
            · split at hx
              · split at hx
                · rename_i hc; cases hx; rw [if_pos hc]
                · cases hx
              · cases hx
            · cases hx
          · cases hx
        exact stepX_sound hx2
      · cases h
    · rename_i t p q ok ho
      split at h
      · rename_i l' k hp hk
        split at h
        · rename_i es kt d z hl hT
          obtain ⟨et, hT⟩ := mapT_ok hT
          split at h
          · rename_i r hf
            split at h
            · rename_i y hy
              cases h
              intro H2 h2
              exact (opA_lookup ho hT hp ((h2 l' (by simp)).trans hl) hk hf hy).a.f
            · cases h
          · cases h
        · cases h
      · cases h
    · cases h

/-- The labels that are kept, and what stands there. -/
def resv (P : Program) : List Oper → AHeap
  | [] => []
  | o :: r => match o.op with
    | .alloc t => (match pureEval P (zeroValue t) with
      | some z => .cells (constA z).cells
      | none => .dead) :: resv P r
    | _ => resv P r

theorem resv_idle (P : Program) : ∀ l, ∀ o ∈ resv P l, idle o = true
  | [], o, h => by cases h
  | q :: r, o, h => by
    unfold resv at h
    split at h
    · rcases List.mem_cons.1 h with rfl | h
      · split <;> rfl
      · exact resv_idle P r o h
    · exact resv_idle P r o h

def nextL (o : Oper) (nx : Option Nat) : Option Nat :=
  match nx with
  | none => none
  | some l => match o.op with
    | .alloc _ => some (l + 1)
    | _ => some l

theorem nextL_some {o : Oper} {nx : Option Nat} : (nextL o nx).isSome = nx.isSome := by
  unfold nextL
  split
  · rfl
  · split <;> rfl

/-! ### Results, cells among them -/
def resC (P : Program) (H : AHeap) (rs : List ResultVar) (T : List AV) : Option (List AV) :=
  match rs with
  | [] => some []
  | .tmp t :: r => (resC P H r T).map (T.getD t .any :: ·)
  | .cell a t :: r => match (cellsOfA H (T.getD a .any)).bind (loadA P t), resC P H r T with
    | some x, some xs => some (x :: xs)
    | _, _ => none

def resultC (P : Program) (H : AHeap) (fn : Func) (T : List AV) : Option AV :=
  match resC P H fn.results.toList T with
  | some [x] => some x
  | some xs => some (.tup xs)
  | none => none

/-! ### Rows -/
abbrev CallE := FuncId → List AV → AHeap → Ev (AV × AHeap × List Nat)

def below (n : Nat) (W : List Nat) : List Nat := W.filter (decide <| · < n)

def step2 (P : Program) (call : CallE) (nx : Option Nat) (o : Oper) (T : List AV) (H : AHeap) : Ev (AV × AHeap × Bool × Rd × List Nat) :=
  match quietF P o T H nx with
  | some (x, rd) => .ok (x, H, true, rd, [])
  | none => match step1 P o T H with
  | some r => .ok r
  | none => match stepM P o T H with
    | some (x, H1, Wr) => .ok (x, H1, false, rd0, Wr)
    | none => match calleeA o T with
      | some (g, args) => match call g args H with
        | .ok (x, H1, Wr) => .ok (x, H1, false, rd0, Wr)
        | .bad tr => .bad tr
      | none => .bad []

def evR (P : Program) (call : CallE) (ops : Array Oper) : List Oper → Option Nat → List AV → AHeap → Ev (List AV × AHeap × Log)
  | [], _, T, H => .ok (T, H, [])
  | o :: r, nx, T, H =>
    match wantedA ops T o with
    | some false => match evR P call ops r (nextL o nx) (putA T o.dst skipA) H with
      | .ok (T', H', L) => .ok (T', H', e0 :: L)
      | .bad tr => .bad tr
    | some true =>
      match step2 P call nx o T H with
      | .ok (x, H1, e) => match evR P call ops r (nextL o nx) (putA T o.dst x) H1 with
        | .ok (T', H', L) => .ok (T', H', e :: L)
        | .bad tr => .bad tr
      | .bad tr => .bad (r.length :: tr)
    | none => .bad [r.length, 1000]

abbrev OutE := AExit × List AV × AHeap × List Nat

def iterE (f : List AV → AHeap → Ev OutE) : Nat → List AV → AHeap → Ev OutE
  | 0, _, _ => .bad [2000]
  | k + 1, T, H => match f T H with
    | .ok (.normal, T', H', W) => match iterE f k T' H' with
      | .ok (x, T2, H2, W2) => .ok (x, T2, H2, W ++ W2)
      | .bad tr => .bad tr
    | r => r

def evC (P : Program) (call : CallE) (n : Nat) : Code → List AV → AHeap → Ev OutE
  | .skip, T, H => .ok (.normal, T, H, [])
  | .label _, T, H => .ok (.normal, T, H, [])
  | .exit i, T, H => .ok (.exit i, T, H, [])
  | .goto i, T, H => .ok (.goto i, T, H, [])
  | .ret, T, H => .ok (.ret, T, H, [])
  | .seq a b, T, H => match evC P call n a T H with
    | .ok (.normal, T', H', W) => match evC P call n b T' H' with
      | .ok (x, T2, H2, W2) => .ok (x, T2, H2, W ++ W2)
      | .bad tr => .bad tr
    | r => r
  | .block i c, T, H => match evC P call n c T H with
    | .ok (.exit j, T', H', W) => if j = i then .ok (.normal, T', H', W) else .ok (.exit j, T', H', W)
    | r => r
  | .cond c a b, T, H => match opdA T c with
    | .sc (.bool true) => evC P call n a T H
    | .sc (.bool false) => evC P call n b T H
    | _ => .bad [3000]
  | .region id ops false, T, H => match evR P call ops ops.toList none T H with
    | .ok (T', H', L) => .ok (.normal, T', H', wrs L)
    | .bad tr => .bad (id :: tr)
  | .region id ops true, T, H => match evR P call ops ops.toList (some H.length) T (H ++ resv P ops.toList) with
    | .ok (T', H', L) => if drawOk ops H.length (H ++ resv P ops.toList).length L = true then .ok (.normal, T', H', wrs L) else .bad [id, 4000]
    | .bad tr => .bad (id :: tr)
  | .loop c, T, H => iterE (evC P call n c) n T H
  | .rangeFunc _ _ _ _, _, _ => .bad [5000]
  | .scope _, _, _ => .bad [6000]
  | .refuse _, _, _ => .bad [7000]

def evF (P : Program) (orc : FuncId → List AV → AHeap → Option (AV × AHeap × List Nat)) : Nat → CallE
  | 0, g, _, _ => .bad [8000, g]
  | n + 1, g, args, H => match orc g args H with
    | some r => .ok r
    | none => match P.funcs[g]? with
      | none => .bad [9000, g]
      | some fn => match fn.body with
        | none => .bad [9001, g]
        | some c => if (fn.name == "runtime.NumGoroutine") = true then .bad [9002, g] else
          match evC P (evF P orc n) n c (args ++ List.replicate (fn.ntmps - args.length) .any) H with
          | .bad tr => .bad (10000 :: g :: tr)
          | .ok (.normal, T, H', W) => match resultC P H' fn T with
            | some x => .ok (x, H', below H.length W)
            | none => .bad [9003, g]
          | .ok (.ret, T, H', W) => match resultC P H' fn T with
            | some x => .ok (x, H', below H.length W)
            | none => .bad [9003, g]
          | .ok _ => .bad [9004, g]
end Go.Proofs.YtiipaliigpkfhaaGreat.Ab
