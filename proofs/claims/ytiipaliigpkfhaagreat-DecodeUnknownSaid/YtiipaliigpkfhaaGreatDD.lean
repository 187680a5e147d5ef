/- Part 19: an evaluator for what is known whole, and what its answers mean. -/
import Derived.Test.YtiipaliigpkfhaaGreatBB
import Derived.Recover
import Derived.RangeFuncLeaves
set_option linter.unusedVariables false
set_option linter.unusedSimpArgs false
namespace Go.Proofs.YtiipaliigpkfhaaGreat.Ab
open Go Go.RowKit

/-- An answer, or where it went astray. -/
inductive Ev (α : Type) where
  | ok (a : α)
  | bad (tr : List Nat)

/-! ### Maps -/
def mapT (P : Program) (t : TypeId) (k : Value) : Option (TypeId × TypeDesc × Value) :=
  match pureEval P (underlying t) with
  | some (.map kt et) => match pureEval P (underlying kt), pureEval P (zeroValue et), pureEval P (Instr.checkKey true 10000 kt k), pureEval P (Instr.checkKey false 10000 kt k) with
    | some d, some z, some _, some _ => some (kt, d, z)
    | _, _, _, _ => none
  | _ => none

theorem mapT_ok {P : Program} {t kt : TypeId} {d : TypeDesc} {z k : Value} (h : mapT P t k = some (kt, d, z)) : ∃ et, MapT P t kt et d z k := by
  unfold mapT at h
  split at h
  · rename_i kt' et hu
    split at h
    · rename_i d' z' a b h1 h2 h3 h4
      cases h
      exact ⟨et, hu, h1, h2, fun b => match b with | true => h3 | false => h4⟩
    · cases h
  · cases h

def notIface : TypeDesc → Bool
  | .interface _ => false
  | _ => true

/-- An interface value's own type, asserted. -/
theorem opS_assert {P : Program} {o : Oper} {T : List AV} {H : AHeap} {x : Operand} {xt t : TypeId} {d : TypeDesc} {v : AV} (ho : o.op = .typeAssert x xt t true) (hu : pureEval P (underlying t) = some d) (hd : notIface d = true) (hx : opdA T x = .ifc t v) : OpS P o T H (.tup [v, .sc (.bool true)]) := by
  refine opS_intro fun E w0 w ρ hg ht => ?_
  have hr := ht x (by simp [ho, Op.operands])
  rw [hx] at hr
  generalize hv : ρ x = u at hr
  cases hr with
  | ifc t v u k =>
    refine ⟨.tuple #[u, .bool true], ?_, .tup _ _ rfl (fun j y hj => ?_)⟩
    · simp only [execOp, ho, Instr.typeAssert, hv, Sem.run_bind, pureEval_run hu, Result.andThen_ok]
      cases d <;> simp_all [notIface]
    · match j, hj with
      | 0, hj => simp at hj; subst hj; exact k
      | 1, hj => simp at hj; subst hj; exact .sc _ rfl

def stepM (P : Program) (o : Oper) (T : List AV) (H : AHeap) : Option (AV × AHeap × List Nat) :=
  match o.op with
  | .typeAssert p _ t true => match opdA T p, pureEval P (underlying t) with
    | .ifc t' v, some d => if t' = t ∧ notIface d = true then some (.tup [v, .sc (.bool true)], H, []) else none
    | _, _ => none
  | .makeMap _ none => some (.mapr H.length, H ++ [.map []], [])
  | .lookup t p q ok => match opdA T p, keyV (opdA T q) with
    | .mapr l, some k => match H[l]?, mapT P t k with
      | some (.map es), some (kt, d, z) => match findKeyA P kt d k es with
        | some r => match gotA es z r with
          | some x => some (if ok then .tup [x, .sc (.bool r.isSome)] else x, H, [])
          | none => none
        | none => none
      | _, _ => none
    | _, _ => none
  | .mapUpdate t p q s => match opdA T p, keyV (opdA T q) with
    | .mapr l, some k => match H[l]?, mapT P t k with
      | some (.map es), some (kt, d, z) => match findKeyA P kt d k es with
        | some none => some (.any, H.set l (.map (upd es k (opdA T s) none)), [l])
        | some (some i) => match es[i]? with
          | some e => if Instr.sameBits 10000 e.1 k = true then some (.any, H.set l (.map (upd es k (opdA T s) (some i))), [l]) else none
          | none => none
        | none => none
      | _, _ => none
    | _, _ => none
  | .mapEntry t p q => match opdA T p, keyV (opdA T q) with
    | .mapr l, some k => match H[l]?, mapT P t k with
      | some (.map es), some (kt, d, z) => match findKeyA P kt d k es with
        | some none => some (.tup [constA z, .stamp l es.length], H.set l (.map (es ++ [(k, constA z)])), [l])
        | some (some i) => match es[i]? with
          | some e => if Instr.sameBits 10000 e.1 k = true then some (.tup [e.2, .stamp l i], H.set l (.map (es.set i (k, e.2))), [l]) else none
          | none => none
        | none => none
      | _, _ => none
    | _, _ => none
  | .entryStore t p s q => match opdA T p, opdA T s with
    | .mapr l, .stamp l' i => if l' = l then match H[l]? with
        | some (.map es) => match es[i]? with
          | some e => some (.any, H.set l (.map (es.set i (e.1, opdA T q))), [l])
          | none => none
        | _ => none
      else none
    | _, _ => none
  | .range t p => match pureEval P (underlying t), opdA T p with
    | some (.map _ _), .mapr l => match H[l]? with
      | some (.map []) => some (.ptr H.length 0, H ++ [.iter l], [])
      | _ => none
    | _, _ => none
  | .convert src dst p => match pureEval P (underlying src), pureEval P (underlying dst), opdA T p with
    | some (.slice e), some .string, .rsl nl sz n el own => if isU8 P e = true ∧ (sz = 1 ∨ n = 0) then match bytesL n el with
        | some ns => some (.sc (.string (strB ns)), H, [])
        | none => none
      else none
    | some (.slice e), _, .msl l 1 n => if src = dst ∧ isU8 P e = true then match H[l]? with
        | some (.cells cs) => if cs.length = n ∧ cs.all (fun x => lf1 x) = true then some (.rsl false 1 n (rowOf 1 cs) .tight, H.set l .dead, [l]) else none
        | _ => none
      else none
    | _, _, _ => none
  | .slice t p lo hi none => match pureEval P (underlying t), opdA T p, optInt T lo, optInt T hi with
    | some (.slice e), .rsl nl sz 0 el own, some l, some h => match pureEval P (Go.sizeOf e) with
      | some _ => if l.getD 0 = 0 ∧ h.getD (0 : Nat) = 0 then some (.rsl nl sz 0 el .non, H, []) else none
      | none => none
    | _, _, _, _ => none
  | .next p false => match opdA T p with
    | .ptr l 0 => match H[l]? with
      | some (.iter m) => match H[m]? with
        | some (.map []) => some (.tup [.sc (.bool false)], H, [])
        | _ => none
      | _ => none
    | _ => none
  | .call c => match c.callee, c.args.toList, c.argTypes[0]? with
    | .builtin .len, [p], some t => match pureEval P (underlying t), opdA T p with
      | some (.map _ _), .mapr l => match H[l]? with
        | some (.map es) => some (.sc (.int .i64 es.length), H, [])
        | _ => none
      | _, _ => none
    | _, _, _ => none
  | _ => none

theorem stepM_sound {P : Program} {o : Oper} {T : List AV} {H H1 : AHeap} {x : AV} {Wr : List Nat} (h : stepM P o T H = some (x, H1, Wr)) : OpA P o T H x H1 Wr ∧ Keeps H H1 Wr := by
  unfold stepM at h
  split at h
  · rename_i p xt t ho
    split at h
    · rename_i t' v d hp hu
      split at h
      · rename_i hc
        obtain ⟨rfl, hd⟩ := hc
        cases h
        exact ⟨(opS_assert ho hu hd hp).a, .refl _ _⟩
      · cases h
    · cases h
  · rename_i t ho
    cases h
    exact ⟨opA_makeMap ho, .push _ _⟩
  · rename_i t p q ok ho
    split at h
    · rename_i l k hp hk
      split at h
      · rename_i es kt d z hl hT
        obtain ⟨et, hT⟩ := mapT_ok hT
        split at h
        · rename_i r hf
          split at h
          · rename_i y hy
            cases h
            exact ⟨(opA_lookup ho hT hp hl hk hf hy).a, .refl _ _⟩
          · cases h
        · cases h
      · cases h
    · cases h
  · rename_i t p q s ho
    split at h
    · rename_i l k hp hk
      split at h
      · rename_i es kt d z hl hT
        obtain ⟨et, hT⟩ := mapT_ok hT
        split at h
        · rename_i hf
          cases h
          exact ⟨opA_mapUpdate ho hT hp hl hk hf (fun i e => by cases e), .set _ _ _⟩
        · rename_i i hf
          split at h
          · rename_i e he
            split at h
            · rename_i hs
              cases h
              exact ⟨opA_mapUpdate ho hT hp hl hk hf (fun j e' => by cases e'; exact ⟨e, he, hs⟩), .set _ _ _⟩
            · cases h
          · cases h
        · cases h
      · cases h
    · cases h
  · rename_i t p q ho
    split at h
    · rename_i l k hp hk
      split at h
      · rename_i es kt d z hl hT
        obtain ⟨et, hT⟩ := mapT_ok hT
        split at h
        · rename_i hf
          cases h
          exact ⟨opA_mapEntry ho hT hp hl hk hf (.inl ⟨rfl, rfl, rfl, rfl⟩), .set _ _ _⟩
        · rename_i i hf
          split at h
          · rename_i e he
            split at h
            · rename_i hs
              cases h
              exact ⟨opA_mapEntry ho hT hp hl hk hf (.inr ⟨e, rfl, he, hs, rfl, rfl⟩), .set _ _ _⟩
            · cases h
          · cases h
        · cases h
      · cases h
    · cases h
  · rename_i t p s q ho
    split at h
    · rename_i l l' i hp hs
      split at h
      · rename_i hll
        subst hll
        split at h
        · rename_i es hl
          split at h
          · rename_i e he
            cases h
            exact ⟨opA_entryStore ho hp hs hl he, .set _ _ _⟩
          · cases h
        · cases h
      · cases h
    · cases h
  · rename_i t p ho
    split at h
    · rename_i kt et l hu hp
      split at h
      · rename_i hl; cases h; exact ⟨opA_range (es := []) ho hu hp hl, .push _ _⟩
      · cases h
    · cases h
  · rename_i src dst p ho
    split at h
    · rename_i e nl sz n el own hu1 hu2 hp
      split at h
      · rename_i h8
        split at h
        · rename_i ns hns; cases h; exact ⟨(opS_bytesStr ho hu1 hu2 (isU8_eq h8.1) hp h8.2 hns).a, .refl _ _⟩
        · cases h
      · cases h
    · rename_i e l n hne hu1 hp
      split at h
      · rename_i h8
        obtain ⟨rfl, h8⟩ := h8
        split at h
        · rename_i cs hl
          split at h
          · rename_i hc
            cases h
            exact ⟨opA_convertMsl ho hu1 (isU8_eq h8) hp hl hc.1 (by simpa using hc.2), .set _ _ _⟩
          · cases h
        · cases h
      · cases h
    · cases h
  · rename_i t p lo hi ho
    split at h
    · rename_i e nl sz el own l h' hu hp hl hh
      split at h
      · rename_i sz0 hs
        split at h
        · rename_i hc
          cases h
          exact ⟨(opS_sliceNone ho hu hs hp hl hh hc.1 hc.2).a, .refl _ _⟩
        · cases h
      · cases h
    · cases h
  · rename_i p ho
    split at h
    · rename_i l hp
      split at h
      · rename_i m hl
        split at h
        · rename_i hm; cases h; exact ⟨opA_next_over ho hp hl hm, .refl _ _⟩
        · cases h
      · cases h
    · cases h
  · rename_i c ho
    split at h
    · rename_i p t hc ha ht
      split at h
      · rename_i kt et l hu hp
        split at h
        · rename_i es hl
          cases h
          exact ⟨(opS_lenMap ho hc (by apply Array.ext'; simpa using ha) ht hu hp hl).a, .refl _ _⟩
        · cases h
      · cases h
    · cases h
  · cases h

/-! ### What may come at any time -/
/-- What making sure of an entry makes of a map. -/
def entryObj (P : Program) : Tr := fun t k ob =>
  match ob with
  | .map es => match mapT P t k with
    | some (kt, d, z) => match findKeyA P kt d k es with
      | some none => some (.map (es ++ [(k, constA z)]))
      | some (some i) => match es[i]? with
        | some e => if Instr.sameBits 10000 e.1 k = true then some (.map (es.set i (k, e.2))) else none
        | none => none
      | none => none
    | none => none
  | _ => none

def softOf (o : Oper) (T : List AV) : Soft :=
  match o.op with
  | .mapEntry t p q => match opdA T p, keyV (opdA T q) with
    | .mapr l, some k => some (l, t, k)
    | _, _ => none
  | _ => none

theorem stepM_soft {P : Program} {o : Oper} {T : List AV} {H H1 : AHeap} {x : AV} {Wr : List Nat} (h : stepM P o T H = some (x, H1, Wr)) : ∀ l t k, softOf o T = some (l, t, k) → ∃ ob, (H[l]?).bind (entryObj P t k) = some ob ∧ H1[l]? = some ob := by
  intro l t k hs
  unfold softOf at hs
  split at hs
  · rename_i t' p q ho
    split at hs
    · rename_i l' k' hp hk
      cases hs
      unfold stepM at h
      rw [ho] at h
      simp only [hp, hk] at h
      split at h
      · rename_i es kt d z hl hT
        have hlt := (List.getElem?_eq_some_iff.1 hl).1
        split at h
        · rename_i hf
          cases h
          refine ⟨.map (es ++ [(k, constA z)]), ?_, by rw [List.getElem?_set_self hlt]⟩
          rw [hl]
          simp only [Option.bind_some, entryObj, hT, hf]
        · rename_i i hf
          split at h
          · rename_i e he
            split at h
            · rename_i hb
              cases h
              refine ⟨.map (es.set i (k, e.2)), ?_, by rw [List.getElem?_set_self hlt]⟩
              rw [hl]
              simp only [Option.bind_some, entryObj, hT, hf, he, hb, if_true]
            · cases h
          · cases h
        · cases h
      · cases h
    · cases hs
  · cases hs

/-- The entry that a look-up may find made sure of: it finds the same. -/
def softL (P : Program) (l : Nat) (t : TypeId) (k : Value) (es : List (Value × AV)) (x : AV) (ok : Bool) : Soft :=
  match ok, entryObj P t k (.map es), mapT P t k, x with
  | false, some (.map es'), some (kt, d, z), .sc v => match findKeyA P kt d k es' with
    | some r' => match gotA es' z r' with
      | some (.sc v') => if samePlain v v' = true then some (l, t, k) else none
      | _ => none
    | none => none
  | _, _, _, _ => none

/-- A value that is known agrees with what is told. -/
def cellOk : AV → Value → Bool
  | .any, _ => true
  | .sc a, b => samePlain a b
  | .rsl true _ 0 _ .non, .slice none 0 0 => true
  | .rsl true _ 0 _ .tight, .slice none 0 0 => true
  | _, _ => false

theorem cellOk_rel {E : Env} {x : AV} {v : Value} (h : cellOk x v = true) : Rel E x v := by
  unfold cellOk at h
  split at h
  · exact .any _
  · obtain ⟨rfl, hp⟩ := samePlain_eq h; exact .sc _ hp
  · exact .rnil _ _ _ (.inl rfl)
  · exact .rnil _ _ _ (.inr rfl)
  · cases h

def cellsOk : List AV → List Value → Bool
  | [], _ => true
  | x :: r, v :: s => cellOk x v && cellsOk r s
  | _ :: _, [] => false

theorem cellsOk_rel {E : Env} : ∀ {cs : List AV} {vs : List Value}, cellsOk cs vs = true → RelCells E cs vs.toArray
  | [], _, _ => fun j x h => by simp at h
  | x :: r, v :: s, h => by
    simp only [cellsOk, Bool.and_eq_true] at h
    intro j y hy
    cases j with
    | zero => simp at hy; subst hy; exact ⟨v, by simp, cellOk_rel h.1⟩
    | succ j =>
      simp at hy
      obtain ⟨u, hu, hr⟩ := cellsOk_rel h.2 j y hy
      exact ⟨u, by simpa using hu, hr⟩
  | _ :: _, [], h => by simp [cellsOk] at h

/-- What comes to the same wherever it comes; nx: the next label that was kept. -/
def quietF (P : Program) (o : Oper) (T : List AV) (H : AHeap) (nx : Option Nat) : Option (AV × Rd) :=
  match nx with
  | none => none
  | some l => match o.op with
    | .alloc t => match pureEval P (zeroValue t), H[l]? with
      | some z, some (.cells cs) => if cellsOk cs z.cells.toList = true then some (.ptr l 0, ⟨[l], some l, none⟩) else none
      | _, _ => none
    | .buildSlice _ _ _ => match stepX P o T [] with
      | some (x, _, _) => some (x, rd0)
      | none => none
    | .lookup t p q ok => match opdA T p, keyV (opdA T q) with
      | .mapr l, some k => match H[l]?, mapT P t k with
        | some (.map es), some (kt, d, z) => match findKeyA P kt d k es with
          | some r => match gotA es z r with
            | some x => some (if ok then .tup [x, .sc (.bool r.isSome)] else x, ⟨[l], none, softL P l t k es x ok⟩)
            | none => none
          | none => none
        | _, _ => none
      | _, _ => none
    | _ => none

theorem quietF_ok {P : Program} {o : Oper} {T : List AV} {H : AHeap} {nx : Option Nat} {x : AV} {rd : Rd} (h : quietF P o T H nx = some (x, rd)) : (∀ H2 : AHeap, (∀ l ∈ rd.labs, H2[l]? = H[l]? ∨ ∃ t k ob, rd.soft = some (l, t, k) ∧ (H[l]?).bind (entryObj P t k) = some ob ∧ H2[l]? = some ob) → OpF P o T H2 x rd.al) ∧ nx.isSome = true := by
  unfold quietF at h
  split at h
  · cases h
  · rename_i l
    refine ⟨?_, rfl⟩
    split at h
    · rename_i t ho
      split at h
      · rename_i z cs hz hl
        split at h
        · rename_i hc
          cases h
          intro H2 h2
          have hl2 : H2[l]? = some (.cells cs) := ((h2 l (by simp)).elim id (fun ⟨_, _, _, e, _⟩ => by simp at e)).trans hl
          intro E w0 w ρ hg hna ht
          have hφ := hna l rfl
          have hrc : RelCells E cs z.cells := by have := cellsOk_rel (E := E) hc; simpa using this
          have hx : (execOp ρ o).run P w = .ok (.value (.pointer (some ⟨w.heap.size, 0, none⟩))) (w.alloc (.cells z.cells t)) := by
            simp only [execOp, ho, Instr.alloc, Sem.run_bind, pureEval_run hz, Result.andThen_ok]
            simp only [newVar, newRow, newObj, Sem.run_bind, Sem.run, Sem.run_pure, Result.andThen_ok]
            rfl
          unfold OpR
          rw [hx]
          refine ⟨E.withφ l w.heap.size, ⟨Env.withφ_le hφ, by rw [alloc_size]; omega, fun hb => Below.heap_alloc w _ _ (hg.ownlt hb), fun {k} hk hne => withφ_ne E (fun e => hne (by rw [e])), fun {b} hb h => ⟨Below.heap_alloc w _ _ hb, fun k ho => (owns_settle ho).elim (h k) (fun e => by omega), fun _ => rfl⟩⟩, hg.settle t hl2 hφ hrc, .ptr _ _ _ (withφ_self _ _ _)⟩
        · cases h
      · cases h
    · rename_i t n ps ho
      split at h
      · rename_i y H' W' hx
        cases h
        intro H2 _
        refine OpA.f ?_
        have hx2 : stepX P o T H2 = some (x, H2, []) := by
          unfold stepX at hx ⊢
          rw [ho] at hx ⊢
          simp only at hx ⊢
          split at hx
          · split at hx
            · split at hx
              · split at hx
                · rename_i hc; cases hx; rw [if_pos hc]
                · cases hx
              · cases hx
            · cases hx
          · cases hx
        exact stepX_sound hx2
      · cases h
    · rename_i t p q ok ho
      split at h
      · rename_i l' k hp hk
        split at h
        · rename_i es kt d z hl hT
          obtain ⟨et, hT⟩ := mapT_ok hT
          split at h
          · rename_i r hf
            split at h
            · rename_i y hy
              cases h
              intro H2 h2
              rcases h2 l' (by simp) with e | ⟨t', k', ob, hs, e1, e2⟩
              · exact (opA_lookup ho hT hp (e.trans hl) hk hf hy).a.f
              · -- the entry has been made sure of: the same is found
                unfold softL at hs
                split at hs
                · rename_i es' kt' d' z' v he' hT' 
                  split at hs
                  · rename_i r' hf'
                    split at hs
                    · rename_i v' hg'
                      split at hs
                      · rename_i hv
                        cases hs
                        rw [hl] at e1
                        simp only [Option.bind_some] at e1
                        rw [he'] at e1
                        cases e1
                        obtain ⟨et', hT2⟩ := mapT_ok hT'
                        rw [(samePlain_eq hv).1]
                        exact (opA_lookup (ok := false) ho hT2 hp e2 hk hf' hg').a.f
                      · cases hs
                    · cases hs
                  · cases hs
                · cases hs
            · cases h
          · cases h
        · cases h
      · cases h
    · cases h

/-- The labels that are kept, and what stands there. -/
def resv (P : Program) : List Oper → AHeap
  | [] => []
  | o :: r => match o.op with
    | .alloc t => (match pureEval P (zeroValue t) with
      | some z => .cells (constA z).cells
      | none => .dead) :: resv P r
    | _ => resv P r

theorem resv_idle (P : Program) : ∀ l, ∀ o ∈ resv P l, idle o = true
  | [], o, h => by cases h
  | q :: r, o, h => by
    unfold resv at h
    split at h
    · rcases List.mem_cons.1 h with rfl | h
      · split <;> rfl
      · exact resv_idle P r o h
    · exact resv_idle P r o h

def nextL (o : Oper) (nx : Option Nat) : Option Nat :=
  match nx with
  | none => none
  | some l => match o.op with
    | .alloc _ => some (l + 1)
    | _ => some l

theorem nextL_some {o : Oper} {nx : Option Nat} : (nextL o nx).isSome = nx.isSome := by
  unfold nextL
  split
  · rfl
  · split <;> rfl

/-! ### A row that is made to be converted at once -/
def pairL (o : Oper) (r : List Oper) : Bool :=
  match o.op, o.dst, r with
  | .buildSlice t _ _, some d, q :: _ => match q.op with
    | .convert t1 t2 (.tmp d2) => decide (t1 = t) && decide (t2 = t) && decide (d2 = d)
    | _ => false
  | _, _, _ => false

def stepL (P : Program) (o : Oper) (T : List AV) (H : AHeap) : Option (AV × AHeap × List Nat) :=
  match o.op with
  | .buildSlice t n ps => match pureEval P (underlying t) with
    | some (.slice elem) => match pureEval P (Go.sizeOf elem), pureEval P (zeroValue elem) with
      | some sz, some z =>
        match fillA (fun i => some (i * sz, sz)) ((List.range (n * sz)).map fun i => (constA z).cells.getD (i % (constA z).cells.length) .any) (ps.toList.map fun (i, x) => (i, opdA T x)) with
        | some cs => if notAny (constA z) = true ∧ 0 < (constA z).cells.length ∧ (0 < n * sz ∧ n * sz ≤ 2 ^ 24) ∧ n ≤ maxLen then some (.msl H.length sz n, H ++ [.cells cs], []) else none
        | none => none
      | _, _ => none
    | _ => none
  | .call c => match c.callee, c.args.toList, appT P c, c.argTypes.toList with
    | .builtin .append, [p, q], some (sz, bytes), [24, 24] => match opdA T p, srcA sz (opdA T q) with
      | .rsl nl sz' 0 el own, some (1, el2) => if (own = .tight ∨ nl = true) ∧ (0 + 1) * bytes ≤ 2 ^ 46 then some (.asl H.length sz 1, H ++ [.cells (el2 0)], []) else none
      | _, _ => none
    | _, _, _, _ => none
  | _ => none

def slotO (o : Oper) : Bool :=
  match o.op with
  | .call _ => true
  | _ => false

theorem stepL_sound {P : Program} {o : Oper} {T : List AV} {H H1 : AHeap} {x : AV} {Wr : List Nat} (h : stepL P o T H = some (x, H1, Wr)) : OpA P o T H x H1 Wr ∧ Keeps H H1 Wr := by
  unfold stepL at h
  split at h
  · rename_i t n ps ho
    split at h
    · rename_i elem hu
      split at h
      · rename_i sz z hs hz
        split at h
        · rename_i cs hf
          split at h
          · rename_i hc
            cases h
            exact ⟨opA_buildSliceL ho hu hs hz rfl hc.1 hc.2.1 hc.2.2.1 hf hc.2.2.2, .push _ _⟩
          · cases h
        · cases h
      · cases h
    · cases h
  · rename_i c ho
    split at h
    · rename_i p q sz bytes hcal hargs hT _
      split at h
      · rename_i nl sz' el own el2 hp hq
        split at h
        · rename_i hc
          cases h
          exact ⟨opA_append1 (appT_ok hcal hargs hT) ho hp hq hc.1 hc.2, .push _ _⟩
        · cases h
      · cases h
    · cases h
  · cases h

/-! ### Results, cells among them -/
def resC (P : Program) (H : AHeap) (rs : List ResultVar) (T : List AV) : Option (List AV) :=
  match rs with
  | [] => some []
  | .tmp t :: r => (resC P H r T).map (T.getD t .any :: ·)
  | .cell a t :: r => match (cellsOfA H (T.getD a .any)).bind (loadA P t), resC P H r T with
    | some x, some xs => some (x :: xs)
    | _, _ => none

def resultC (P : Program) (H : AHeap) (fn : Func) (T : List AV) : Option AV :=
  match resC P H fn.results.toList T with
  | some [x] => some x
  | some xs => some (.tup xs)
  | none => none

/-! ### Rows -/
abbrev CallE := FuncId → List AV → AHeap → Ev (AV × AHeap × List Nat)

def below (n : Nat) (W : List Nat) : List Nat := W.filter (decide <| · < n)

def step2 (P : Program) (call : CallE) (nx : Option Nat) (o : Oper) (T : List AV) (H : AHeap) : Ev (AV × AHeap × Bool × Rd × List Nat) :=
  match quietF P o T H nx with
  | some (x, rd) => .ok (x, H, true, rd, [])
  | none => match step1 P o T H with
  | some r => .ok r
  | none => match stepM P o T H with
    | some (x, H1, Wr) => .ok (x, H1, false, rdS (softOf o T), Wr)
    | none => match calleeA o T with
      | some (g, args) => match call g args H with
        | .ok (x, H1, Wr) => .ok (x, H1, false, rd0, Wr)
        | .bad tr => .bad tr
      | none => .bad []

def step2L (P : Program) (call : CallE) (nx : Option Nat) (o : Oper) (r : List Oper) (T : List AV) (H : AHeap) : Ev (AV × AHeap × Bool × Rd × List Nat) :=
  match (if nx = none ∧ (pairL o r || slotO o) = true then stepL P o T H else none) with
  | some q => .ok (q.1, q.2.1, false, rd0, q.2.2)
  | none => step2 P call nx o T H

def evR (P : Program) (call : CallE) (ops : Array Oper) : List Oper → Option Nat → List AV → AHeap → Ev (List AV × AHeap × Log)
  | [], _, T, H => .ok (T, H, [])
  | o :: r, nx, T, H =>
    match wantedA ops T o with
    | some false => match evR P call ops r (nextL o nx) (putA T o.dst skipA) H with
      | .ok (T', H', L) => .ok (T', H', e0 :: L)
      | .bad tr => .bad tr
    | some true =>
      match step2L P call nx o r T H with
      | .ok (x, H1, e) => match evR P call ops r (nextL o nx) (putA T o.dst x) H1 with
        | .ok (T', H', L) => .ok (T', H', e :: L)
        | .bad tr => .bad tr
      | .bad tr => .bad (r.length :: tr)
    | none => .bad [r.length, 1000]

abbrev OutE := AExit × List AV × AHeap × List Nat

def iterE (f : List AV → AHeap → Ev OutE) : Nat → List AV → AHeap → Ev OutE
  | 0, _, _ => .bad [2000]
  | k + 1, T, H => match f T H with
    | .ok (.normal, T', H', W) => match iterE f k T' H' with
      | .ok (x, T2, H2, W2) => .ok (x, T2, H2, W ++ W2)
      | .bad tr => .bad tr
    | r => r

def evCb (P : Program) (call : CallE) (sco : Code → List AV → AHeap → Ev OutE) (n : Nat) : Code → List AV → AHeap → Ev OutE
  | .skip, T, H => .ok (.normal, T, H, [])
  | .label _, T, H => .ok (.normal, T, H, [])
  | .exit i, T, H => .ok (.exit i, T, H, [])
  | .goto i, T, H => .ok (.goto i, T, H, [])
  | .ret, T, H => .ok (.ret, T, H, [])
  | .seq a b, T, H => match evCb P call sco n a T H with
    | .ok (.normal, T', H', W) => match evCb P call sco n b T' H' with
      | .ok (x, T2, H2, W2) => .ok (x, T2, H2, W ++ W2)
      | .bad tr => .bad tr
    | r => r
  | .block i c, T, H => match evCb P call sco n c T H with
    | .ok (.exit j, T', H', W) => if j = i then .ok (.normal, T', H', W) else .ok (.exit j, T', H', W)
    | r => r
  | .cond c a b, T, H => match opdA T c with
    | .sc (.bool true) => evCb P call sco n a T H
    | .sc (.bool false) => evCb P call sco n b T H
    | _ => .bad [3000]
  | .region id ops false, T, H => match evR P call ops ops.toList none T H with
    | .ok (T', H', L) => .ok (.normal, T', H', wrs L)
    | .bad tr => .bad (id :: tr)
  | .region id ops true, T, H => match evR P call ops ops.toList (some H.length) T (H ++ resv P ops.toList) with
    | .ok (T', H', L) => if drawOk ops H.length (H ++ resv P ops.toList).length L = true then .ok (.normal, T', H', wrs L) else .bad [id, 4000]
    | .bad tr => .bad (id :: tr)
  | .loop c, T, H => iterE (evCb P call sco n c) n T H
  | .rangeFunc _ _ _ _, _, _ => .bad [5000]
  | .scope c, T, H => sco c T H
  | .refuse _, _, _ => .bad [7000]

/-- From label to label. -/
def passE (f : Code → List AV → AHeap → Ev OutE) (c : Code) : Nat → Code → List AV → AHeap → Ev OutE
  | 0, _, _, _ => .bad [6001]
  | k + 1, d, T, H => match f d T H with
    | .ok (.goto l, T', H', W) => match findLabel c l with
      | some rest => match passE f c k rest T' H' with
        | .ok (x, T2, H2, W2) => .ok (x, T2, H2, W ++ W2)
        | .bad tr => .bad tr
      | none => .bad [6002]
    | r => r

def evC (P : Program) (call : CallE) : Nat → Code → List AV → AHeap → Ev OutE
  | 0 => evCb P call (fun _ _ _ => .bad [6000]) 0
  | n + 1 => evCb P call (fun c T H => passE (evC P call n) c n c T H) (n + 1)

end Go.Proofs.YtiipaliigpkfhaaGreat.Ab

/- Part 20: the evaluator is sound, rows and code. -/
set_option linter.unusedVariables false
set_option linter.unusedSimpArgs false
namespace Go.Proofs.YtiipaliigpkfhaaGreat.Ab
open Go Go.RowKit

def CallOk (P : Program) (call : CallE) : Prop := ∀ (g : FuncId) (args : List AV) (H : AHeap) (x : AV) (H1 : AHeap) (Wr : List Nat), call g args H = .ok (x, H1, Wr) → Ctr P g args x H H1 Wr

theorem opA_callee {P : Program} {o : Oper} {T : List AV} {H H1 : AHeap} {x : AV} {g : FuncId} {args : List AV} {Wr : List Nat} (hg : calleeA o T = some (g, args)) (hc : Ctr P g args x H H1 Wr) : OpA P o T H x H1 Wr := by
  unfold calleeA at hg
  split at hg
  · rename_i c ho
    split at hg
    · rename_i f hf
      split at hg
      · rename_i g' first caps hop
        simp only [Option.some.injEq, Prod.mk.injEq] at hg
        obtain ⟨rfl, rfl⟩ := hg
        exact opA_call ho hf hop hc.1 hc.2.1 (fun l _ hl => hl)
      · cases hg
    · cases hg
  · cases hg

theorem Keeps.trans {H H1 H2 : AHeap} {W W1 : List Nat} (h : Keeps H H1 W) (k : Keeps H1 H2 W1) : Keeps H H2 (W ++ W1) :=
  ⟨Nat.le_trans h.1 k.1, fun l hl hm => by
    rw [List.mem_append, not_or] at hm
    rw [k.2 l (Nat.lt_of_lt_of_le hl h.1) hm.2, h.2 l hl hm.1]⟩

section
variable {P : Program} {call : CallE}

theorem evR_chain (hc : CallOk P call) {ops : Array Oper} : ∀ (r : List Oper) (k : Nat) (nx : Option Nat) (T : List AV) (H : AHeap) (T' : List AV) (H' : AHeap) (L : Log), (∀ (j : Nat) (o : Oper), r[j]? = some o → ops[k + j]? = some o) → evR P call ops r nx T H = .ok (T', H', L) →
    Chain P ops nx.isSome (entryObj P) ((List.range r.length).map (k + ·)) T H T' H' L ∧ Keeps H H' (wrs L)
  | [], k, nx, T, H, T', H', L, _, h => by
    simp only [evR, Ev.ok.injEq, Prod.mk.injEq] at h
    obtain ⟨rfl, rfl, rfl⟩ := h
    exact ⟨.nil T H, .refl _ _⟩
  | o :: r, k, nx, T, H, T', H', L, ho, h => by
    have ho0 : ops[k]? = some o := ho 0 o rfl
    have hor : ∀ (j : Nat) (q : Oper), r[j]? = some q → ops[k + 1 + j]? = some q := fun j q hq => by
      have := ho (j + 1) q (by simpa using hq)
      rw [show k + 1 + j = k + (j + 1) by omega]; exact this
    have hr : (List.range (o :: r).length).map (k + ·) = k :: (List.range r.length).map (k + 1 + ·) := by
      rw [List.length_cons, List.range_succ_eq_map]
      simp only [List.map_cons, List.map_map, Nat.add_zero]
      congr 1
      refine List.map_congr_left (fun a _ => ?_)
      simp only [Function.comp]
      omega
    rw [hr]
    unfold evR at h
    split at h
    · rename_i hw
      split at h
      · rename_i T2 H2 L2 hq
        cases h
        obtain ⟨h1, h2⟩ := evR_chain hc r (k + 1) _ _ _ _ _ _ hor hq
        rw [nextL_some] at h1
        exact ⟨.skip ho0 hw h1, by simpa [wrs, e0] using h2⟩
      · cases h
    · rename_i hw
      split at h
      · rename_i x H1 e hs
        split at h
        · rename_i T2 H2 L2 hq
          cases h
          obtain ⟨h1, h2⟩ := evR_chain hc r (k + 1) _ _ _ _ _ _ hor hq
          rw [nextL_some] at h1
          have hq' := hq
          unfold step2L at hs
          split at hs
          · rename_i q hq2
            split at hq2
            · cases hs
              obtain ⟨ha, hk⟩ := stepL_sound (x := q.1) (H1 := q.2.1) (Wr := q.2.2) hq2
              exact ⟨.act (sf := none) ho0 hw ha hk (fun l t k e => by cases e) h1, hk.trans h2⟩
            · cases hq2
          unfold step2 at hs
          split at hs
          · rename_i y rd hy
            cases hs
            obtain ⟨hf, hn⟩ := quietF_ok hy
            exact ⟨.float ho0 hw hf (fun e => by rw [hn] at e; cases e) h1, by simpa [wrs] using h2⟩
          · split at hs
            · rename_i q hst
              cases hs
              unfold step1 at hst
              split at hst
              · rename_i y hy
                cases hst
                exact ⟨.float ho0 hw (stepS_float hy) (fun _ => rfl) h1, by simpa [wrs] using h2⟩
              · split at hst
                · rename_i y H3 Wr hx
                  cases hst
                  exact ⟨.act (sf := none) ho0 hw (stepX_sound hx) (stepX_keeps hx) (fun l t k e => by cases e) h1, (stepX_keeps hx).trans h2⟩
                · cases hst
            · split at hs
              · rename_i y H3 Wr hm
                cases hs
                exact ⟨.act ho0 hw (stepM_sound hm).1 (stepM_sound hm).2 (stepM_soft hm) h1, (stepM_sound hm).2.trans h2⟩
              · split at hs
                · rename_i g args hg
                  split at hs
                  · rename_i y H3 Wr hcall
                    cases hs
                    have hctr := hc _ _ _ _ _ _ hcall
                    exact ⟨.act (sf := none) ho0 hw (opA_callee hg hctr) hctr.2.2 (fun l t k e => by cases e) h1, hctr.2.2.trans h2⟩
                  · cases hs
                · cases hs
        · cases h
      · cases h
    · cases h

theorem Keeps.unres {H H' res : AHeap} {W : List Nat} (h : Keeps (H ++ res) H' W) : Keeps H H' W :=
  ⟨by have := h.1; simp at this; omega, fun l hl hm => (h.2 l (by simp; omega) hm).trans (List.getElem?_append_left hl)⟩

/-- What the evaluator says of code. -/
def CodeOk (P : Program) (c : Code) (T : List AV) (H : AHeap) (x : AExit) (T' : List AV) (H' : AHeap) (Wr : List Nat) : Prop :=
  (∀ (n0 : Nat) (W : Nat → Prop), n0 ≤ H.length → (∀ l ∈ Wr, l < n0 → W l) → wpA P n0 W c (fun y T2 H2 => y = x ∧ T2 = T' ∧ H2 = H') T H) ∧ Keeps H H' Wr

theorem CodeOk.then {c : Code} {T T' : List AV} {H H' : AHeap} {n0 : Nat} {W : Nat → Prop} {Q : AExit → List AV → AHeap → Prop} {x : AExit} {W1 : List Nat} (h : CodeOk P c T H x T' H' W1) (hn : n0 ≤ H.length) (hw : ∀ l ∈ W1, l < n0 → W l) (k : Q x T' H') : wpA P n0 W c Q T H :=
  wpA_mono (h.1 n0 W hn hw) (fun y T2 H2 ⟨h1, h2, h3⟩ => by subst h1 h2 h3; exact k)

/-- From label to label, as it went. -/
inductive Passes (P : Program) (c : Code) (x : AExit) (T' : List AV) (H' : AHeap) : Nat → Code → List AV → AHeap → List Nat → Prop where
  | out {d : Code} {T : List AV} {H : AHeap} {W : List Nat} (k : Nat) (h : CodeOk P d T H x T' H' W) (hx : ∀ l, x ≠ .goto l) : Passes P c x T' H' (k + 1) d T H W
  | next {d rest : Code} {l : Nat} {T T1 : List AV} {H H1 : AHeap} {W W' : List Nat} {k : Nat} (h : CodeOk P d T H (.goto l) T1 H1 W) (hr : findLabel c l = some rest) (r : Passes P c x T' H' k rest T1 H1 W') : Passes P c x T' H' (k + 1) d T H (W ++ W')

theorem Passes.keeps {c : Code} {x : AExit} {T' : List AV} {H' : AHeap} {k : Nat} {d : Code} {T : List AV} {H : AHeap} {W : List Nat} (h : Passes P c x T' H' k d T H W) : Keeps H H' W := by
  induction h with
  | out k h hx => exact h.2
  | next h hr r ih => exact h.2.trans ih

theorem Passes.ok {c : Code} {x : AExit} {T' : List AV} {H' : AHeap} {k : Nat} {T : List AV} {H : AHeap} {Wr : List Nat} (h : Passes P c x T' H' k c T H Wr) : CodeOk P (.scope c) T H x T' H' Wr := by
  refine ⟨fun n0 W hn hW => ?_, h.keeps⟩
  refine wpA_scope (fun m d T2 H2 => ∃ W2, Passes P c x T' H' m d T2 H2 W2 ∧ (∀ l ∈ W2, l < n0 → W l) ∧ n0 ≤ H2.length) k ⟨Wr, h, hW, hn⟩ ?_
  rintro m d T2 H2 ⟨W2, hr, hW2, hn2⟩
  cases hr with
  | out k h hx =>
    refine h.then hn2 hW2 ?_
    cases x with
    | goto l => exact absurd rfl (hx l)
    | normal => exact ⟨rfl, rfl, rfl⟩
    | exit i => exact ⟨rfl, rfl, rfl⟩
    | ret => exact ⟨rfl, rfl, rfl⟩
    | panic y => exact ⟨rfl, rfl, rfl⟩
  | next h hr r =>
    refine h.then hn2 (fun l hl => hW2 l (List.mem_append_left _ hl)) ?_
    exact ⟨_, hr, _, Nat.lt_succ_self _, _, r, fun l hl => hW2 l (List.mem_append_right _ hl), Nat.le_trans hn2 h.2.1⟩

theorem iterE_ok {c : Code} {f : List AV → AHeap → Ev OutE} (hf : ∀ T H x T' H' Wr, f T H = .ok (x, T', H', Wr) → CodeOk P c T H x T' H' Wr) : ∀ (k : Nat) (T : List AV) (H : AHeap) (x : AExit) (T' : List AV) (H' : AHeap) (Wr : List Nat), iterE f k T H = .ok (x, T', H', Wr) → CodeOk P (.loop c) T H x T' H' Wr := by
  -- round by round, as the evaluator went
  have key : ∀ (k : Nat) (T : List AV) (H : AHeap) (x : AExit) (T' : List AV) (H' : AHeap) (Wr : List Nat), iterE f k T H = .ok (x, T', H', Wr) →
      Keeps H H' Wr ∧ ∀ (n0 : Nat) (W : Nat → Prop), n0 ≤ H.length → (∀ l ∈ Wr, l < n0 → W l) → ∃ I : Nat → List AV → AHeap → Prop, I k T H ∧ ∀ m T H, I m T H → m ≤ k ∧ wpA P n0 W c (AExit.then (fun T2 H2 => ∃ m', m' < m ∧ I m' T2 H2) (fun y T2 H2 => y = x ∧ T2 = T' ∧ H2 = H')) T H := by
    intro k
    induction k with
    | zero => intro T H x T' H' Wr h; cases h
    | succ k ih =>
      intro T H x T' H' Wr h
      unfold iterE at h
      split at h
      · rename_i T1 H1 W1 h1
        split at h
        · rename_i y T2 H2 W2 h2
          cases h
          obtain ⟨k1, i1⟩ := ih _ _ _ _ _ _ h2
          have ok1 := hf _ _ _ _ _ _ h1
          refine ⟨ok1.2.trans k1, fun n0 W hn hw => ?_⟩
          obtain ⟨I, hI, hstep⟩ := i1 n0 W (Nat.le_trans hn ok1.2.1) (fun l hl => hw l (List.mem_append_right _ hl))
          refine ⟨fun m T3 H3 => (m = k + 1 ∧ T3 = T ∧ H3 = H) ∨ I m T3 H3, .inl ⟨rfl, rfl, rfl⟩, ?_⟩
          rintro m T3 H3 (⟨rfl, rfl, rfl⟩ | hm)
          · refine ⟨Nat.le_refl _, ok1.then hn (fun l hl => hw l (List.mem_append_left _ hl)) ?_⟩
            exact ⟨k, Nat.lt_succ_self _, .inr hI⟩
          · obtain ⟨hle, hwp⟩ := hstep m T3 H3 hm
            refine ⟨Nat.le_succ_of_le hle, wpA_mono hwp ?_⟩
            intro z T4 H4 hz
            cases z with
            | normal => obtain ⟨m', hm', hi⟩ := hz; exact ⟨m', hm', .inr hi⟩
            | _ => exact hz
        · cases h
      · rename_i hne
        have hne' : ∀ (T2 : List AV) (H2 : AHeap) (W2 : List Nat), f T H ≠ .ok (.normal, T2, H2, W2) := hne
        have ok1 := hf _ _ _ _ _ _ h
        refine ⟨ok1.2, fun n0 W hn hw => ⟨fun m T3 H3 => m = k + 1 ∧ T3 = T ∧ H3 = H, ⟨rfl, rfl, rfl⟩, ?_⟩⟩
        rintro m T3 H3 ⟨rfl, rfl, rfl⟩
        refine ⟨Nat.le_refl _, ok1.then hn hw ?_⟩
        cases x with
        | normal => exact absurd h (hne' _ _ _)
        | exit i => exact ⟨rfl, rfl, rfl⟩
        | goto i => exact ⟨rfl, rfl, rfl⟩
        | ret => exact ⟨rfl, rfl, rfl⟩
        | panic y => exact ⟨rfl, rfl, rfl⟩
  intro k T H x T' H' Wr h
  obtain ⟨h1, h2⟩ := key k T H x T' H' Wr h
  refine ⟨fun n0 W hn hw => ?_, h1⟩
  obtain ⟨I, hI, hstep⟩ := h2 n0 W hn hw
  exact wpA_loop I k hI (fun m T H hi => (hstep m T H hi).2)

theorem evCb_ok (hm : P.follows .mixedOrders = true) (hc : CallOk P call) {sco : Code → List AV → AHeap → Ev OutE} (hs : ∀ c T H x T' H' Wr, sco c T H = .ok (x, T', H', Wr) → CodeOk P (.scope c) T H x T' H' Wr) (n : Nat) : ∀ (c : Code) (T : List AV) (H : AHeap) (x : AExit) (T' : List AV) (H' : AHeap) (Wr : List Nat), evCb P call sco n c T H = .ok (x, T', H', Wr) → CodeOk P c T H x T' H' Wr
  | .skip, T, H, x, T', H', Wr, h => by cases h; exact ⟨fun _ _ _ _ => wpA_skip ⟨rfl, rfl, rfl⟩, .refl _ _⟩
  | .label _, T, H, x, T', H', Wr, h => by cases h; exact ⟨fun _ _ _ _ => wpA_label ⟨rfl, rfl, rfl⟩, .refl _ _⟩
  | .exit _, T, H, x, T', H', Wr, h => by cases h; exact ⟨fun _ _ _ _ => wpA_exit ⟨rfl, rfl, rfl⟩, .refl _ _⟩
  | .goto _, T, H, x, T', H', Wr, h => by cases h; exact ⟨fun _ _ _ _ => wpA_goto ⟨rfl, rfl, rfl⟩, .refl _ _⟩
  | .ret, T, H, x, T', H', Wr, h => by cases h; exact ⟨fun _ _ _ _ => wpA_ret ⟨rfl, rfl, rfl⟩, .refl _ _⟩
  | .seq a b, T, H, x, T', H', Wr, h => by
    unfold evCb at h
    split at h
    · rename_i T1 H1 W1 h1
      split at h
      · rename_i y T2 H2 W2 h2
        cases h
        have ok1 := evCb_ok hm hc hs n a _ _ _ _ _ _ h1
        have ok2 := evCb_ok hm hc hs n b _ _ _ _ _ _ h2
        exact ⟨fun n0 W hn hw => wpA_seq (ok1.then hn (fun l hl => hw l (List.mem_append_left _ hl)) (ok2.1 n0 W (Nat.le_trans hn ok1.2.1) (fun l hl => hw l (List.mem_append_right _ hl)))), ok1.2.trans ok2.2⟩
      · cases h
    · rename_i hne
      have hne' : ∀ (T2 : List AV) (H2 : AHeap) (W2 : List Nat), evCb P call sco n a T H ≠ .ok (.normal, T2, H2, W2) := hne
      have ok1 := evCb_ok hm hc hs n a _ _ _ _ _ _ h
      refine ⟨fun n0 W hn hw => wpA_seq (ok1.then hn hw ?_), ok1.2⟩
      cases x with
      | normal => exact absurd h (hne' _ _ _)
      | exit i => exact ⟨rfl, rfl, rfl⟩
      | goto i => exact ⟨rfl, rfl, rfl⟩
      | ret => exact ⟨rfl, rfl, rfl⟩
      | panic y => exact ⟨rfl, rfl, rfl⟩
  | .block i c, T, H, x, T', H', Wr, h => by
    unfold evCb at h
    split at h
    · rename_i j T1 H1 W1 h1
      have ok1 := evCb_ok hm hc hs n c _ _ _ _ _ _ h1
      split at h
      · rename_i hj
        cases h
        exact ⟨fun n0 W hn hw => wpA_block (ok1.then hn hw (by simp [AExit.inBlock, hj])), ok1.2⟩
      · rename_i hj
        cases h
        exact ⟨fun n0 W hn hw => wpA_block (ok1.then hn hw (by simp [AExit.inBlock, hj])), ok1.2⟩
    · rename_i hne
      have hne' : ∀ (j : Nat) (T2 : List AV) (H2 : AHeap) (W2 : List Nat), evCb P call sco n c T H ≠ .ok (.exit j, T2, H2, W2) := hne
      have ok1 := evCb_ok hm hc hs n c _ _ _ _ _ _ h
      refine ⟨fun n0 W hn hw => wpA_block (ok1.then hn hw ?_), ok1.2⟩
      cases x with
      | normal => exact ⟨rfl, rfl, rfl⟩
      | exit i => exact absurd h (hne' _ _ _ _)
      | goto i => exact ⟨rfl, rfl, rfl⟩
      | ret => exact ⟨rfl, rfl, rfl⟩
      | panic y => exact ⟨rfl, rfl, rfl⟩
  | .cond c a b, T, H, x, T', H', Wr, h => by
    unfold evCb at h
    split at h
    · rename_i ht
      have ok1 := evCb_ok hm hc hs n a _ _ _ _ _ _ h
      exact ⟨fun n0 W hn hw => wpA_cond ht (ok1.1 n0 W hn hw), ok1.2⟩
    · rename_i ht
      have ok1 := evCb_ok hm hc hs n b _ _ _ _ _ _ h
      exact ⟨fun n0 W hn hw => wpA_cond ht (ok1.1 n0 W hn hw), ok1.2⟩
    · cases h
  | .region id ops false, T, H, x, T', H', Wr, h => by
    unfold evCb at h
    split at h
    · rename_i T1 H1 L h1
      cases h
      obtain ⟨h2, h3⟩ := evR_chain hc ops.toList 0 _ T _ _ _ _ (fun j o hj => by simpa using hj) h1
      have e : (List.range ops.toList.length).map (0 + ·) = List.range ops.size := by simp
      rw [e] at h2
      exact ⟨fun n0 W hn hw => wpA_chain h2 hw ⟨rfl, rfl, rfl⟩, h3⟩
    · cases h
  | .region id ops true, T, H, x, T', H', Wr, h => by
    unfold evCb at h
    split at h
    · rename_i T1 H1 L h1
      split at h
      · rename_i hd
        cases h
        obtain ⟨h2, h3⟩ := evR_chain hc ops.toList 0 _ T _ _ _ _ (fun j o hj => by simpa using hj) h1
        have e : (List.range ops.toList.length).map (0 + ·) = List.range ops.size := by simp
        rw [e] at h2
        exact ⟨fun n0 W hn hw => wpA_chain_draw hm (resv_idle P _) h2 hw hd ⟨rfl, rfl, rfl⟩, h3.unres⟩
      · cases h
    · cases h
  | .loop c, T, H, x, T', H', Wr, h => iterE_ok (fun T H x T' H' Wr h => evCb_ok hm hc hs n c T H x T' H' Wr h) n T H x T' H' Wr h
  | .rangeFunc _ _ _ _, T, H, x, T', H', Wr, h => by cases h
  | .scope c, T, H, x, T', H', Wr, h => hs _ _ _ _ _ _ _ h
  | .refuse _, T, H, x, T', H', Wr, h => by cases h

theorem passE_ok {f : Code → List AV → AHeap → Ev OutE} (hf : ∀ d T H x T' H' Wr, f d T H = .ok (x, T', H', Wr) → CodeOk P d T H x T' H' Wr) (c : Code) : ∀ (k : Nat) (d : Code) (T : List AV) (H : AHeap) (x : AExit) (T' : List AV) (H' : AHeap) (Wr : List Nat), passE f c k d T H = .ok (x, T', H', Wr) → Passes P c x T' H' k d T H Wr
  | 0, d, T, H, x, T', H', Wr, h => by cases h
  | k + 1, d, T, H, x, T', H', Wr, h => by
    unfold passE at h
    split at h
    · rename_i l T1 H1 W1 h1
      split at h
      · rename_i rest hr
        split at h
        · rename_i y T2 H2 W2 h2
          cases h
          exact .next (hf _ _ _ _ _ _ _ h1) hr (passE_ok hf c k _ _ _ _ _ _ _ h2)
        · cases h
      · cases h
    · rename_i hne
      exact .out k (hf _ _ _ _ _ _ _ h) (fun l e => by subst e; exact hne _ _ _ _ h)

theorem evC_ok (hm : P.follows .mixedOrders = true) (hc : CallOk P call) : ∀ (n : Nat) (c : Code) (T : List AV) (H : AHeap) (x : AExit) (T' : List AV) (H' : AHeap) (Wr : List Nat), evC P call n c T H = .ok (x, T', H', Wr) → CodeOk P c T H x T' H' Wr
  | 0 => fun c T H x T' H' Wr h => evCb_ok hm hc (fun _ _ _ _ _ _ _ h => by cases h) 0 c T H x T' H' Wr h
  | n + 1 => fun c T H x T' H' Wr h => evCb_ok hm hc (fun c T H x T' H' Wr h => (passE_ok (fun d T H x T' H' Wr h => evC_ok hm hc n d T H x T' H' Wr h) c n c T H x T' H' Wr h).ok) (n + 1) c T H x T' H' Wr h
end
end Go.Proofs.YtiipaliigpkfhaaGreat.Ab

/- Part 21: functions: results in cells, deferred calls. -/
set_option linter.unusedVariables false
set_option linter.unusedSimpArgs false
namespace Go.Proofs.YtiipaliigpkfhaaGreat.Ab
open Go Go.RowKit

/-! ### Results -/
theorem resC_run {P : Program} {E : Env} {H : AHeap} {w0 w : World} (hg : Good E H w0 w) {T : List AV} {tmps : Array Value} (ht : RelT E T tmps) {g : ResultVar → Sem Value} (hg1 : ∀ t, g (.tmp t) = pure (tmps.getD t undef))
    (hg2 : ∀ a t, g (.cell a t) = (do loadVar t (← asAddr (tmps.getD a undef)))) : ∀ {rs : List ResultVar} {xs : List AV}, resC P H rs T = some xs →
    ∃ vs : List Value, (rs.mapM g).run P w = .ok vs w ∧ vs.length = xs.length ∧ ∀ (i : Nat) (x : AV), xs[i]? = some x → Rel E x (vs.getD i undef)
  | [], xs, h => by
    simp only [resC, Option.some.injEq] at h
    subst h
    exact ⟨[], rfl, rfl, fun i x hx => by simp at hx⟩
  | .cell a t :: r, xs, h => by
    unfold resC at h
    split at h
    · rename_i x ys hx hy
      cases h
      rw [Option.bind_eq_some_iff] at hx
      obtain ⟨cs, hcs, hx⟩ := hx
      have hrel : Rel E (T.getD a .any) (tmps.getD a undef) := by
        cases hT : T[a]? with
        | none => simp [List.getD_eq_getElem?_getD, hT]; exact .any _
        | some y => simpa [List.getD_eq_getElem?_getD, hT] using ht.2 a y hT
      obtain ⟨b, off, hv, hc⟩ := cellsOfA_at hg hrel hcs
      obtain ⟨v, hr, hrel2⟩ := loadA_run hc hx
      obtain ⟨vs, hvs, hl, hrs⟩ := resC_run hg ht hg1 hg2 hy
      refine ⟨v :: vs, ?_, by simp [hl], fun i x hx => ?_⟩
      · rw [List.mapM_cons, hg2, hv, Sem.run_bind, Sem.run_bind]
        simp only [asAddr, Sem.run_pure, Result.andThen_ok, hr]
        rw [Sem.run_bind, hvs]
        rfl
      · cases i with
        | zero => simp at hx; subst hx; simpa using hrel2
        | succ i => simpa using hrs i x (by simpa using hx)
    · cases h
  | .tmp t :: r, xs, h => by
    simp only [resC, Option.map_eq_some_iff] at h
    obtain ⟨ys, hy, rfl⟩ := h
    obtain ⟨vs, hv, hl, hr⟩ := resC_run hg ht hg1 hg2 hy
    refine ⟨tmps.getD t undef :: vs, ?_, by simp [hl], fun i x hx => ?_⟩
    · rw [List.mapM_cons, hg1]
      simp only [pure_bind]
      rw [Sem.run_bind, hv]
      rfl
    · cases i with
      | zero =>
        simp at hx
        subst hx
        rw [List.getD_cons_zero]
        cases hT : T[t]? with
        | none => exact .any _
        | some y => exact ht.2 t y hT
      | succ i => simpa using hr i x (by simpa using hx)

theorem resultC_run {P : Program} {E : Env} {H : AHeap} {w0 w : World} (hg : Good E H w0 w) {T : List AV} {tmps : Array Value} (ht : RelT E T tmps) {fn : Func} {x : AV} (h : resultC P H fn T = some x) :
    ∃ v, (results fn tmps).run P w = .ok v w ∧ Rel E x v := by
  unfold resultC at h
  cases hr : resC P H fn.results.toList T with
  | none => rw [hr] at h; cases h
  | some xs =>
    rw [hr] at h
    unfold results
    rw [Sem.run_bind, Array.mapM_eq_mapM_toList, Sem.run_map]
    suffices aux : ∀ (g : ResultVar → Sem Value), (∀ t, g (.tmp t) = pure (tmps.getD t undef)) → (∀ a t, g (.cell a t) = (do loadVar t (← asAddr (tmps.getD a undef)))) →
        ∃ v, ((Sem.run P (List.mapM g fn.results.toList) w).andThen fun a w' => Result.ok a.toArray w').andThen (fun a w' => Sem.run P (pure (if h : a.size = 1 then a[0] else Value.tuple a)) w') = Result.ok v w ∧ Rel E x v from
      aux _ (fun _ => rfl) (fun _ _ => rfl)
    intro g hg1 hg2
    obtain ⟨vs, hv, hl, hrel⟩ := resC_run hg ht hg1 hg2 hr
    rw [hv]
    match xs, hl, h with
    | [y], hl, h =>
      match vs, hl with
      | [v], _ =>
        simp only [Option.some.injEq] at h
        subst h
        exact ⟨v, rfl, by simpa using hrel 0 y rfl⟩
    | [], hl, h =>
      match vs, hl with
      | [], _ =>
        simp only [Option.some.injEq] at h
        subst h
        exact ⟨_, rfl, .tup _ _ rfl (fun j x hj => by simp at hj)⟩
    | y :: z :: r, hl, h =>
      match vs, hl with
      | a :: b :: s, hl =>
        simp only [Option.some.injEq] at h
        subst h
        refine ⟨.tuple (a :: b :: s).toArray, by simp [Result.andThen], .tup _ _ (by simpa using hl) (fun j x hj => by simpa using hrel j x hj)⟩

/-! ### Deferred calls -/
inductive DQ where
  | call (g : FuncId) (args : List AV)
  | mark (l : Nat)

def RelD (P : Program) (E : Env) : DQ → Deferred → Prop
  | .call g args, d => HasBody P g ∧ ∃ cap vs, d.target = .fn (.func g) cap ∧ vs = d.args ++ cap ∧ RelL E args vs
  | .mark l, d => ∃ b, d.target = .collected b ∧ E.φ l = some b

theorem RelD.mono {P : Program} {E E' : Env} {q : DQ} {d : Deferred} (h : RelD P E q d) (he : E.le E') : RelD P E' q d := by
  cases q with
  | call g args =>
    obtain ⟨h0, cap, vs, h1, h2, h3⟩ := h
    exact ⟨h0, cap, vs, h1, h2, h3.mono he⟩
  | mark l =>
    obtain ⟨b, h1, h2⟩ := h
    exact ⟨b, h1, he.φ h2⟩

inductive RelDs (P : Program) (E : Env) : List DQ → List Deferred → Prop where
  | nil : RelDs P E [] []
  | cons {q : DQ} {d : Deferred} {D : List DQ} {ds : List Deferred} (h : RelD P E q d) (k : RelDs P E D ds) : RelDs P E (q :: D) (d :: ds)

theorem RelDs.mono {P : Program} {E E' : Env} {D : List DQ} {ds : List Deferred} (h : RelDs P E D ds) (he : E.le E') : RelDs P E' D ds := by
  induction h with
  | nil => exact .nil
  | cons h k ih => exact .cons (h.mono he) ih

abbrev DefE := List DQ

def BodyOk (P : Program) (c : Code) (T : List AV) (H : AHeap) (D : DefE) (x : AExit) (T' : List AV) (H' : AHeap) (Wr : List Nat) (D' : DefE) : Prop :=
  (∀ (E : Env) (w0 w : World) (a : Act), Good E H w0 w → RelT E T a.tmps → RelDs P E D a.defers →
    c.wp P (fun e a' w' => ∃ E', RelX E' x e ∧ Ext H.length (· ∈ Wr) E H w E' H' w' ∧ Good E' H' w0 w' ∧ RelT E' T' a'.tmps ∧ RelDs P E' D' a'.defers) a w) ∧ Keeps H H' Wr

theorem BodyOk.of {P : Program} {c : Code} {T T' : List AV} {H H' : AHeap} {x : AExit} {Wr : List Nat} (h : CodeOk P c T H x T' H' Wr) (D : DefE) : BodyOk P c T H D x T' H' Wr D := by
  refine ⟨fun E w0 w a hg ht hd => ?_, h.2⟩
  refine wp_mono (h.1 H.length (· ∈ Wr) (Nat.le_refl _) (fun l hl _ => hl) E w0 w a a.defers (Nat.le_refl _) hg ht rfl) ?_
  rintro e a' w' ⟨E', y, T2, H2, ⟨rfl, rfl, rfl⟩, r, ex, g, t, d⟩
  exact ⟨E', r, ex, g, t, by rw [d]; exact hd.mono ex.le⟩

theorem BodyOk.seq {P : Program} {c d : Code} {T T1 T' : List AV} {H H1 H' : AHeap} {D D1 D' : DefE} {x : AExit} {W1 W2 : List Nat} (h : BodyOk P c T H D .normal T1 H1 W1 D1) (k : BodyOk P d T1 H1 D1 x T' H' W2 D') : BodyOk P (.seq c d) T H D x T' H' (W1 ++ W2) D' := by
  refine ⟨fun E w0 w a hg ht hd => ?_, h.2.trans k.2⟩
  refine wp_seq (wp_mono (h.1 E w0 w a hg ht hd) ?_)
  rintro e a' w' ⟨E1, r, ex, g, t, d1⟩
  cases r
  refine wp_mono (k.1 E1 w0 w' a' g t d1) ?_
  rintro e a2 w2 ⟨E2, r2, ex2, g2, t2, d2⟩
  exact ⟨E2, r2, (ex.weaken (Nat.le_refl _) (fun l _ hl => List.mem_append_left _ hl)).trans (ex2.weaken ex.len (fun l _ hl => List.mem_append_right _ hl)), g2, t2, d2⟩

theorem BodyOk.seqX {P : Program} {c d : Code} {T T' : List AV} {H H' : AHeap} {D D' : DefE} {x : AExit} {W1 : List Nat} (h : BodyOk P c T H D x T' H' W1 D') (hx : x ≠ .normal) : BodyOk P (.seq c d) T H D x T' H' W1 D' := by
  refine ⟨fun E w0 w a hg ht hd => ?_, h.2⟩
  refine wp_seq (wp_mono (h.1 E w0 w a hg ht hd) ?_)
  rintro e a' w' ⟨E1, r, ex, g, t, d1⟩
  cases r with
  | normal => exact absurd rfl hx
  | exit i => exact ⟨E1, .exit i, ex, g, t, d1⟩
  | goto i => exact ⟨E1, .goto i, ex, g, t, d1⟩
  | ret => exact ⟨E1, .ret, ex, g, t, d1⟩
  | panic y v hv => exact ⟨E1, .panic y v hv, ex, g, t, d1⟩

/-- A row that makes a closure and defers its call. -/
def hasBody (P : Program) (g : FuncId) : Bool :=
  match P.funcs[g]? with
  | some fn => !(fn.name == "runtime.NumGoroutine") && fn.body.isSome
  | none => false

theorem hasBody_ok {P : Program} {g : FuncId} (h : hasBody P g = true) : HasBody P g := by
  unfold hasBody at h
  split at h
  · rename_i fn hf
    simp only [Bool.and_eq_true, Bool.not_eq_true', Option.isSome_iff_exists] at h
    obtain ⟨h1, c, hc⟩ := h
    exact ⟨fn, c, hf, h1, hc⟩
  · cases h

def deferA (P : Program) (ops : Array Oper) (T : List AV) (H : AHeap) : Option (List AV × FuncId × List AV) :=
  match ops.toList with
  | [o1, o2] => match o1.guard, o2.guard, o2.dst, o2.op, stepS P o1 T H with
    | none, none, none, .defer c, some x => match c.callee with
      | .value f => match opdA (putA T o1.dst x) f with
        | .fn (.func g) first caps => if hasBody P g = true then some (putA T o1.dst x, g, first ++ c.args.toList.map (opdA (putA T o1.dst x)) ++ caps) else none
        | _ => none
      | _ => none
    | _, _, _, _, _ => none
  | _ => none

theorem deferA_ok {P : Program} {id : Nat} {ops : Array Oper} {T T' : List AV} {H : AHeap} {D : DefE} {g : FuncId} {args : List AV} (h : deferA P ops T H = some (T', g, args)) : BodyOk P (.region id ops false) T H D .normal T' H [] (.call g args :: D) := by
  refine ⟨fun E w0 w a hg ht hd => ?_, .refl _ _⟩
  unfold deferA at h
  split at h
  · rename_i o1 o2 hops
    split at h
    · rename_i c x hg1 hg2 hdst ho2 hs
      split at h
      · rename_i f hcal
        split at h
        · rename_i g' first caps hf
          split at h
          · rename_i hb
            simp only [Option.some.injEq, Prod.mk.injEq] at h
            obtain ⟨rfl, rfl, rfl⟩ := h
            have hop : ops = #[o1, o2] := by apply Array.ext'; simpa using hops
            subst hop
            refine wp_region ?_
            show wpOps P #[o1, o2] _ [0, 1] a w
            have w1 : Region.wanted o1 (yielded #[o1, o2] a.tmps) = true := by unfold Region.wanted; rw [hg1]
            simp only [wpOps, List.getElem?_toArray, List.getElem?_cons_zero, w1, if_true]
            obtain ⟨v, hrun, hrel⟩ := stepS_sound hs E w0 w a.eval hg (ht.o o1)
            refine .inl ?_
            unfold Oper.wp
            rw [hrun, Oper.upon_value]
            have ht1 := put_rel ht o1.dst hrel
            have hd1 : RelDs P E D (a.put o1.dst v).defers := by rw [put_defers']; exact hd
            generalize a.put o1.dst v = a1 at ht1 hd1
            have w2 : Region.wanted o2 (yielded #[o1, o2] a1.tmps) = true := by unfold Region.wanted; rw [hg2]
            simp only [List.getElem?_cons_succ, List.getElem?_cons_zero, w2, if_true]
            refine .inl ?_
            have hr := opd_rel ht1 f
            rw [hf] at hr
            generalize hv : a1.eval f = u at hr
            cases hr with
            | fn _ _ _ us vs h1 h2 k1 k2 =>
              have hrun2 : (execOp a1.eval o2).run P w = .ok (.defer { target := .fn (.func g') vs, args := us ++ c.args.map a1.eval }) w := by
                simp only [execOp, ho2, resolve, hcal, hv, Deferred.ofValue, pure_bind, Sem.run_pure, Sem.run_bind, Result.andThen_ok]
              rw [hrun2, Oper.upon_defer, hdst]
              refine ⟨E, .normal, .refl _ _ _ _ _, hg, ht1, .cons ⟨hasBody_ok hb, vs, _, rfl, rfl, ?_⟩ hd1⟩
              exact relL_append (relL_append ⟨h1, k1⟩ (rel_list c.args (fun y hy => opd_rel ht1 y))) ⟨h2, k2⟩
          · cases h
        · cases h
      · cases h
    · cases h
  · cases h

/-- A mark is done with. -/
theorem Good.kill {E : Env} {H : AHeap} {w0 w : World} (g : Good E H w0 w) {l b : Nat} {k : Mk} (hl : H[l]? = some (.mark k)) (hb : E.φ l = some b) (o' : Obj) : Good E (H.set l .dead) w0 { w with heap := w.heap.setIfInBounds b o' } := by
  have hown : owns E H l b := by unfold owns; rw [hl]; exact hb
  obtain ⟨h1, ob, h3, h4⟩ := g.obj hl b hb
  have hlt : l < H.length := (List.getElem?_eq_some_iff.1 hl).1
  have hoth : ∀ c, c ≠ b → ({ w with heap := w.heap.setIfInBounds b o' } : World).heap[c]? = w.heap[c]? := fun c hc => Array.getElem?_setIfInBounds_ne (Ne.symm hc)
  have owns_set : ∀ (z c : Nat), owns E (H.set l .dead) z c → owns E H z c := by
    intro z c h
    by_cases hz : l = z
    · subst hz
      unfold owns at h
      rw [List.getElem?_set_self hlt] at h
      exact h.elim
    · unfold owns at h ⊢
      rw [List.getElem?_set_ne hz] at h
      exact h
  refine ⟨g.below.trans ⟨rfl, rfl, rfl, by simp, fun k hk => hoth k (by omega)⟩, ?_, ?_, ?_, ?_, ?_⟩
  · intro c o u h
    have hne : c ≠ b := fun e => by
      subst e
      have := g.snap h
      cases k with
      | defs => have h4 : ob = .deferred (some []) := h4; subst h4; simp [World.cell?, h3] at this
      | loop => obtain ⟨q, rfl, _⟩ := h4; simp [World.cell?, h3] at this
    rw [cell_same (hoth c hne)]
    exact g.snap h
  · intro z o h
    by_cases hz : l = z
    · subst hz
      rw [List.getElem?_set_self hlt] at h
      simp only [Option.some.injEq] at h
      subst h
      trivial
    · rw [List.getElem?_set_ne hz] at h
      exact (g.obj h).step h (.refl E) (fun _ h => h) (fun _ => rfl) (fun _ _ _ _ h => h) (fun c hc => hoth c (fun e => hz (by subst e; exact g.sep hown hc)))
  · intro z z' c h h'
    exact g.sep (owns_set _ _ h) (owns_set _ _ h')
  · intro z hz; exact g.fresh (by simpa using hz)
  · intro z c h
    have := g.φlt h
    simpa using this

theorem kill_ext {E : Env} {H : AHeap} {w0 w : World} {n0 : Nat} {W : Nat → Prop} (g : Good E H w0 w) {l b : Nat} {k : Mk} {ob : Obj} (hW : l < n0 → W l) (hl : H[l]? = some (.mark k)) (hb : E.φ l = some b) :
    Ext n0 W E H w E (H.set l .dead) { w with heap := w.heap.setIfInBounds b ob } := by
  have hown : owns E H l b := by unfold owns; rw [hl]; exact hb
  refine ⟨.refl E, by simp, by simp, fun {z} hz hw => ?_, fun {z c} hz hw ho => ?_, fun _ => rfl, fun {c} hc h => ⟨Array.getElem?_setIfInBounds_ne (fun e => h _ (e ▸ hown)), fun z ho => h z ?_, fun _ => rfl⟩⟩
  · have : l ≠ z := fun e => hw (e ▸ hW (e ▸ hz))
    exact List.getElem?_set_ne this
  · refine Array.getElem?_setIfInBounds_ne (fun e => ?_)
    subst e
    have := g.sep ho hown
    subst this
    exact hw (hW hz)
  · unfold owns at ho ⊢
    by_cases hz : l = z
    · subst hz
      rw [List.getElem?_set_self (List.getElem?_eq_some_iff.1 hl).1] at ho
      exact ho.elim
    · rwa [List.getElem?_set_ne hz] at ho

theorem Good.newMark {E : Env} {H : AHeap} {w0 w : World} (g : Good E H w0 w) {k : Mk} {o : Obj} (ho : markIs (E.withφ H.length w.heap.size) k o) : Good (E.withφ H.length w.heap.size) (H ++ [.mark k]) w0 (w.alloc o) := by
  refine (g.push o).adopt (by rw [alloc_size]; omega) (fun l ho => absurd (g.ownlt ho) (Nat.lt_irrefl _)) (fun _ _ => by simp) ?_
  intro b hb
  rw [withφ_self] at hb
  simp only [Option.some.injEq] at hb
  subst hb
  exact ⟨g.below.size, o, heap_alloc_new w _, ho⟩

/-- What is done behind a range over a function. -/
inductive Jump : Option Code → AExit → Prop where
  | none : Jump none .normal
  | ret : Jump (some .ret) .ret
  | exit (i : Nat) : Jump (some (.exit i)) (.exit i)

/-- Ranging over a function. -/
theorem range_ok {P : Program} {g : Operand} {ps : Array Tmp} {assign body : Code} {T : List AV} {H H1 : AHeap} {D : DefE} {gf : FuncId} {first caps : List AV} {x : AV} {Wr : List Nat} {T2 : List AV} {ps2 : Array Tmp} {as2 bd2 : Code} {st : Option Code} {y : AExit} (hgo : opdA T g = .fn (.func gf) first caps)
    (hctr : Ctr P gf (first ++ [.yfn (H.length + 1)] ++ caps) x ((H ++ [.mark .defs]) ++ [.mark (.loop T ps assign body none)]) H1 Wr) (h1 : H1[H.length + 1]? = some (.mark (.loop T2 ps2 as2 bd2 st))) (hj : Jump st y) :
    BodyOk P (.rangeFunc g ps assign body) T H D y T (H1.set (H.length + 1) .dead) (Wr ++ [H.length + 1]) (.mark H.length :: D) := by
  have hk := hctr.2.2
  refine ⟨fun E w0 w a hg ht hd b k cs => ?_, ?_⟩
  · have g1 := hg.newMark (k := .defs) (o := .deferred (some [])) rfl
    have x1 : Ext H.length (fun _ => False) E H w (E.withφ H.length w.heap.size) (H ++ [.mark .defs]) (w.alloc (.deferred (some []))) := new_ext _ _ (Nat.le_refl _) hg _ _
    let r : Loop := { state := .ready, pending := none, fn := b.fn, tmps := a.tmps, params := ps, assign := assign, body := body, defers := w.heap.size }
    have hlen1 : (H ++ [AObj.mark .defs]).length = H.length + 1 := by simp
    have hs1 : (w.alloc (.deferred (some []))).heap.size = w.heap.size + 1 := alloc_size _ _
    have x2 : Ext H.length (fun _ => False) _ _ _ _ _ ((w.alloc (.deferred (some []))).alloc (.loop r)) := new_ext _ _ (by simp) g1 (.loop r) (.mark (.loop T ps assign body none))
    have g2 := g1.newMark (k := .loop T ps assign body none) (o := .loop r) ⟨r, rfl, (ht.mono (x1.le.trans x2.le)), rfl, rfl, rfl, rfl, rfl⟩
    have x12 := x1.trans x2
    rw [hlen1] at g2 x12
    rw [hs1] at g2 x12
    generalize hE1 : (E.withφ H.length w.heap.size).withφ (H.length + 1) (w.heap.size + 1) = E1 at g2 x12
    have hφ0 : E1.φ H.length = some w.heap.size := by rw [← hE1, withφ_ne _ (by omega), withφ_self]
    have hφ1 : E1.φ (H.length + 1) = some (w.heap.size + 1) := by rw [← hE1, withφ_self]
    have hr := opd_rel ht g
    rw [hgo] at hr
    generalize hv : a.eval g = u at hr
    cases hr with
    | fn _ _ _ us vs q1 q2 k1 k2 =>
      have hrel : RelL E1 (first ++ [.yfn (H.length + 1)] ++ caps) (us ++ #[.func (.yield (w.heap.size + 1)) #[] #[]] ++ vs) := by
        have r1 : RelL E1 first us := RelL.mono x12.le ⟨q1, k1⟩
        have r2 : RelL E1 caps vs := RelL.mono x12.le ⟨q2, k2⟩
        refine relL_append (relL_append r1 ⟨rfl, fun i y hy => ?_⟩) r2
        cases i with
        | zero => simp at hy; subst hy; exact .yfn _ _ hφ1
        | succ i => simp at hy
      have he : (Instr.enterLoop b.fn a.tmps ps assign body none).run P w = .ok (w.heap.size + 1, [{ target := .collected w.heap.size, args := #[] }]) ((w.alloc (.deferred (some []))).alloc (.loop r)) := by
        simp only [Instr.enterLoop, newObj, Sem.run_bind, Sem.run, Sem.run_pure, pure_bind, Result.andThen_ok, Array.size_push]
        rfl
      have hres : (resolve a.eval (rangeCall g (w.heap.size + 1)) 0).run P ((w.alloc (.deferred (some []))).alloc (.loop r)) = .ok { target := .fn (.func gf) vs, args := us ++ #[.func (.yield (w.heap.size + 1)) #[] #[]] } ((w.alloc (.deferred (some []))).alloc (.loop r)) := by
        have hcst : ∀ v, a.eval (.const v) = v := fun _ => rfl
        simp [resolve, rangeCall, hv, hcst, Deferred.ofValue]
      obtain ⟨fn', c', hf', hn', hb'⟩ := hctr.1
      have hinv : (invoke (.fn (.func gf) vs) (us ++ #[.func (.yield (w.heap.size + 1)) #[] #[]])).run P ((w.alloc (.deferred (some []))).alloc (.loop r)) = .ok (.enter gf (us ++ #[.func (.yield (w.heap.size + 1)) #[] #[]] ++ vs)) ((w.alloc (.deferred (some []))).alloc (.loop r)) := by
        have h1 : fn'.name ≠ "runtime.NumGoroutine" := by simpa using hn'
        simp [invoke, callFunc, hf', h1, hb']
      have henter := stepR_rangeFunc (P := P) (b := { b with roundOf := none }) (a := a) (k := k) (cs := cs) (w := w) he hres hinv
      obtain ⟨e, w3, fr, ⟨E2, re, ex2, g3⟩, hsteps, hfn, hleave⟩ := hctr.2.1 E1 w0 _ _ g2 hrel (Frame.atR { b with roundOf := none } { a with defers := [{ target := .collected w.heap.size, args := #[] }] ++ a.defers } (.inRangeFunc (w.heap.size + 1) :: k) :: cs)
      cases re with
      | ret x v hv' =>
        obtain ⟨_, ob, h5, r', h6, h7, _, _, _, h8, h9⟩ := g3.obj h1 _ (ex2.le.φ hφ1)
        subst h6
        have h10 : (r'.state == .busy) = false := by rw [h9]; split <;> rfl
        have hend : (Instr.endLoop (w.heap.size + 1)).run P w3 = .ok st { w3 with heap := w3.heap.setIfInBounds (w.heap.size + 1) (.loop { r' with state := .exhausted }) } := by
          have hget : (getObj (w.heap.size + 1)).run P w3 = .ok (.loop r') w3 := by simp [getObj, Sem.run, h5]
          have hset : ∀ o', (setObj (w.heap.size + 1) o').run P w3 = .ok () { w3 with heap := w3.heap.setIfInBounds (w.heap.size + 1) o' } := fun o' => by simp [setObj, Sem.run, h5]
          simp only [Instr.endLoop, Instr.getLoop, Sem.run_bind, hget, Result.andThen_ok, Sem.run_pure, h10, hset, h8, Bool.false_eq_true, if_false, pure_bind]
        have hpost : ∀ e, RelX E2 y e → ∃ E', RelX E' y e ∧ Ext H.length (· ∈ Wr ++ [H.length + 1]) E H w E' (H1.set (H.length + 1) .dead) { w3 with heap := w3.heap.setIfInBounds (w.heap.size + 1) (.loop { r' with state := .exhausted }) } ∧ Good E' (H1.set (H.length + 1) .dead) w0 { w3 with heap := w3.heap.setIfInBounds (w.heap.size + 1) (.loop { r' with state := .exhausted }) } ∧ RelT E' T a.tmps ∧ RelDs P E' (.mark H.length :: D) ([{ target := .collected w.heap.size, args := #[] }] ++ a.defers) := fun e re =>
          ⟨E2, re, (x12.weaken (Nat.le_refl _) (fun _ _ h => h.elim)).trans ((ex2.weaken (by simp) (fun l _ hl => List.mem_append_left _ hl)).trans (kill_ext g3 (fun h => by omega) h1 (ex2.le.φ hφ1))), g3.kill h1 (ex2.le.φ hφ1) (.loop { r' with state := .exhausted }), ht.mono (x12.le.trans ex2.le), .cons ⟨_, rfl, ex2.le.φ hφ0⟩ (hd.mono (x12.le.trans ex2.le))⟩
        have hsteps2 : Steps P (lone (b.at a (.code (.rangeFunc g ps assign body) :: k)) cs w) (lone (Frame.atR { b with roundOf := none } { a with defers := [{ target := .collected w.heap.size, args := #[] }] ++ a.defers } ((st.map Item.code).toList ++ k)) cs { w3 with heap := w3.heap.setIfInBounds (w.heap.size + 1) (.loop { r' with state := .exhausted }) }) := by
          refine Steps.trans (.one henter) (Steps.trans hsteps (.head (step_leave_returned hleave) ?_))
          rw [finish_atR_inRangeFunc]
          exact .one (stepR_endRangeFunc hend)
        cases hj with
        | none => exact ⟨.normal, { a with defers := [{ target := .collected w.heap.size, args := #[] }] ++ a.defers }, _, hpost .normal .normal, hsteps2⟩
        | ret =>
          obtain ⟨e, a', w', q, harr⟩ := wp_ret (P := P) (Q := fun e a' w' => e = .ret ∧ a' = { a with defers := [{ target := .collected w.heap.size, args := #[] }] ++ a.defers } ∧ w' = { w3 with heap := w3.heap.setIfInBounds (w.heap.size + 1) (.loop { r' with state := .exhausted }) }) ⟨rfl, rfl, rfl⟩ b k cs
          obtain ⟨rfl, rfl, rfl⟩ := q
          exact ⟨.ret, _, _, hpost .ret .ret, .of_steps hsteps2 harr⟩
        | exit i =>
          obtain ⟨e, a', w', q, harr⟩ := wp_exit (P := P) (id := i) (Q := fun e a' w' => e = .exit i ∧ a' = { a with defers := [{ target := .collected w.heap.size, args := #[] }] ++ a.defers } ∧ w' = { w3 with heap := w3.heap.setIfInBounds (w.heap.size + 1) (.loop { r' with state := .exhausted }) }) ⟨rfl, rfl, rfl⟩ b k cs
          obtain ⟨rfl, rfl, rfl⟩ := q
          exact ⟨.exit i, _, _, hpost (.exit i) (.exit i), .of_steps hsteps2 harr⟩
  · have hk0 : Keeps H ((H ++ [AObj.mark .defs]) ++ [AObj.mark (.loop T ps assign body none)]) [] := (Keeps.push _ _).trans (Keeps.push _ _)
    have hk1 := hk0.trans hk
    refine ⟨by simpa using hk1.1, fun l hl hm => ?_⟩
    rw [List.mem_append, not_or] at hm
    rw [List.getElem?_set_ne (by omega)]
    exact hk1.2 l hl (by simpa using hm.1)

def unblock (i : Nat) : AExit → AExit
  | .exit j => if j = i then .normal else .exit j
  | y => y

theorem BodyOk.block {P : Program} {i : Nat} {c : Code} {T T' : List AV} {H H' : AHeap} {D D' : DefE} {x : AExit} {W1 : List Nat} (h : BodyOk P c T H D x T' H' W1 D') : BodyOk P (.block i c) T H D (unblock i x) T' H' W1 D' := by
  refine ⟨fun E w0 w a hg ht hd => ?_, h.2⟩
  refine wp_block (wp_mono (h.1 E w0 w a hg ht hd) ?_)
  rintro e a' w' ⟨E1, r, ex, g, t, d1⟩
  cases r with
  | normal => exact ⟨E1, .normal, ex, g, t, d1⟩
  | exit j =>
    by_cases hj : j = i
    · simp only [Exit.inBlock, unblock, hj, if_true]
      exact ⟨E1, .normal, ex, g, t, d1⟩
    · simp only [Exit.inBlock, unblock, hj, if_false]
      exact ⟨E1, .exit j, ex, g, t, d1⟩
  | goto i => exact ⟨E1, .goto i, ex, g, t, d1⟩
  | ret => exact ⟨E1, .ret, ex, g, t, d1⟩
  | panic y v hv => exact ⟨E1, .panic y v hv, ex, g, t, d1⟩

theorem BodyOk.cond {P : Program} {c : Operand} {a b : Code} {t : Bool} {T T' : List AV} {H H' : AHeap} {D D' : DefE} {x : AExit} {W1 : List Nat} (hc : opdA T c = .sc (.bool t)) (h : BodyOk P (if t then a else b) T H D x T' H' W1 D') : BodyOk P (.cond c a b) T H D x T' H' W1 D' := by
  refine ⟨fun E w0 w act hg ht hd => ?_, h.2⟩
  have hr := opd_rel ht c
  rw [hc] at hr
  generalize hv : act.eval c = v at hr
  cases hr with
  | sc v hp => exact wp_cond hv (h.1 E w0 w act hg ht hd)

abbrev OutB := AExit × List AV × AHeap × List Nat × DefE

def evB (P : Program) (call : CallE) (n : Nat) : Code → List AV → AHeap → DefE → Ev OutB
  | .seq a b, T, H, D => match evB P call n a T H D with
    | .ok (.normal, T1, H1, W1, D1) => match evB P call n b T1 H1 D1 with
      | .ok (x, T2, H2, W2, D2) => .ok (x, T2, H2, W1 ++ W2, D2)
      | .bad tr => .bad tr
    | r => r
  | .block i c, T, H, D => match evB P call n c T H D with
    | .ok (x, T1, H1, W1, D1) => .ok (unblock i x, T1, H1, W1, D1)
    | .bad tr => .bad tr
  | .cond c a b, T, H, D => match opdA T c with
    | .sc (.bool true) => evB P call n a T H D
    | .sc (.bool false) => evB P call n b T H D
    | _ => .bad [3000]
  | .rangeFunc g ps assign body, T, H, D => match opdA T g with
    | .fn (.func gf) first caps => match call gf (first ++ [.yfn (H.length + 1)] ++ caps) ((H ++ [.mark .defs]) ++ [.mark (.loop T ps assign body none)]) with
      | .ok (x, H1, W1) => match H1[H.length + 1]? with
        | some (.mark (.loop _ _ _ _ none)) => .ok (.normal, T, H1.set (H.length + 1) .dead, W1 ++ [H.length + 1], .mark H.length :: D)
        | _ => .bad [5001]
      | .bad tr => .bad (5002 :: tr)
    | _ => .bad [5003]
  | .region id ops false, T, H, D => match deferA P ops T H with
    | some (T', g, args) => .ok (.normal, T', H, [], .call g args :: D)
    | none => match evC P call n (.region id ops false) T H with
      | .ok (x, T', H', W) => .ok (x, T', H', W, D)
      | .bad tr => .bad tr
  | c, T, H, D => match evC P call n c T H with
    | .ok (x, T', H', W) => .ok (x, T', H', W, D)
    | .bad tr => .bad tr

theorem evB_ok {P : Program} {call : CallE} (hm : P.follows .mixedOrders = true) (hc : CallOk P call) (n : Nat) : ∀ (c : Code) (T : List AV) (H : AHeap) (D : DefE) (x : AExit) (T' : List AV) (H' : AHeap) (Wr : List Nat) (D' : DefE), evB P call n c T H D = .ok (x, T', H', Wr, D') → BodyOk P c T H D x T' H' Wr D' := by
  have other : ∀ (c : Code) (T : List AV) (H : AHeap) (D : DefE) (x : AExit) (T' : List AV) (H' : AHeap) (Wr : List Nat) (D' : DefE), (match evC P call n c T H with
    | .ok (x, T', H', W) => (.ok (x, T', H', W, D) : Ev (AExit × List AV × AHeap × List Nat × DefE))
    | .bad tr => .bad tr) = .ok (x, T', H', Wr, D') → BodyOk P c T H D x T' H' Wr D' := by
    intro c T H D x T' H' Wr D' h
    split at h
    · rename_i y T2 H2 W2 h2
      cases h
      exact .of (evC_ok hm hc n c _ _ _ _ _ _ h2) D
    · cases h
  intro c
  induction c with
  | seq a b iha ihb =>
    intro T H D x T' H' Wr D' h
    unfold evB at h
    split at h
    · rename_i T1 H1 W1 D1 h1
      split at h
      · rename_i y T2 H2 W2 D2 h2
        cases h
        exact (iha _ _ _ _ _ _ _ _ h1).seq (ihb _ _ _ _ _ _ _ _ h2)
      · cases h
    · rename_i hne
      have hne' : ∀ (T2 : List AV) (H2 : AHeap) (W2 : List Nat) (D2 : DefE), evB P call n a T H D ≠ .ok (.normal, T2, H2, W2, D2) := hne
      exact (iha _ _ _ _ _ _ _ _ h).seqX (fun e => by subst e; exact absurd h (hne' _ _ _ _))
  | region id ops draw =>
    intro T H D x T' H' Wr D' h
    cases draw with
    | true => exact other _ _ _ _ _ _ _ _ _ h
    | false =>
      unfold evB at h
      split at h
      · rename_i T2 g args hq
        cases h
        exact deferA_ok hq
      · exact other _ _ _ _ _ _ _ _ _ h
  | block i c ih =>
    intro T H D x T' H' Wr D' h
    unfold evB at h
    split at h
    · rename_i y T1 H1 W1 D1 h1
      cases h
      exact (ih _ _ _ _ _ _ _ _ h1).block
    · cases h
  | cond c a b iha ihb =>
    intro T H D x T' H' Wr D' h
    unfold evB at h
    split at h
    · rename_i ht
      exact .cond ht (iha _ _ _ _ _ _ _ _ h)
    · rename_i ht
      exact .cond ht (ihb _ _ _ _ _ _ _ _ h)
    · cases h
  | rangeFunc g ps assign body _ _ =>
    intro T H D x T' H' Wr D' h
    unfold evB at h
    split at h
    · rename_i gf first caps hgo
      split at h
      · rename_i y H1 W1 hcall
        split at h
        · rename_i h1
          cases h
          exact range_ok hgo (hc _ _ _ _ _ _ hcall) h1 .none
        · cases h
      · cases h
    · cases h
  | _ => intro T H D x T' H' Wr D' h; exact other _ _ _ _ _ _ _ _ _ h
end Go.Proofs.YtiipaliigpkfhaaGreat.Ab

/- Part 22: the calls that were deferred; whole functions. -/
set_option linter.unusedVariables false
set_option linter.unusedSimpArgs false
namespace Go.Proofs.YtiipaliigpkfhaaGreat.Ab
open Go Go.RowKit

/-- Operations in text order, in a deferred frame. -/
theorem RunA.soundS {P : Program} {ops : Array Oper} {Q : Exit → Act → List Frame → World → Prop} {cs : List Frame} {is : List Nat} {T T' : List AV} {H H' : AHeap} {W : List Nat} (h : RunA P ops is T H T' H' W) :
    ∀ {n0 : Nat} {E : Env} {w0 w : World} {a : Act}, n0 ≤ H.length → Good E H w0 w → RelT E T a.tmps →
      (∀ (E' : Env) (a' : Act) (w' : World), Ext n0 (· ∈ W) E H w E' H' w' → Good E' H' w0 w' → RelT E' T' a'.tmps → a'.defers = a.defers → Q .normal a' cs w') →
      wpOpsS P ops Q is a cs w := by
  induction h with
  | nil T H =>
    intro n0 E w0 w a hn hg ht hk
    exact hk E a w (.refl _ _ _ _ _) hg ht rfl
  | @skip i rest o T T' H H' W ho hw hr ih =>
    intro n0 E w0 w a hn hg ht hk
    simp only [wpOpsS, ho, wanted_eq ht hw, if_false, Bool.false_eq_true]
    refine ih hn hg (put_rel ht o.dst (skip_rel _)) (fun E' a' w' he hg' ht' hd => ?_)
    exact hk E' a' w' he hg' ht' (hd.trans (put_defers' _ _ _))
  | @step i rest o x T T' H H1 H' W1 W ho hw hs hr ih =>
    intro n0 E w0 w a hn hg ht hk
    simp only [wpOpsS, ho, wanted_eq ht hw, if_true]
    have hop := hs E w0 w a.eval hg (ht.o o)
    have key : o.upon P a (fun a' w' => wpOpsS P ops Q rest a' cs w') (fun e a' w' => Q e a' cs w') ((execOp a.eval o).run P w) := by
      refine OpR.wp hop ?_
      rintro v w' ⟨E', he, hg', hv⟩
      refine ih (Nat.le_trans hn he.len) hg' (put_rel (ht.mono he.le) o.dst hv) (fun E2 a2 w2 he2 hg2 ht2 hd => ?_)
      refine hk E2 a2 w2 ?_ hg2 ht2 (hd.trans (put_defers' _ _ _))
      exact (he.weaken hn (fun l _ hl => List.mem_append_left _ hl)).trans (he2.weaken (Nat.le_refl _) (fun l _ hl => List.mem_append_right _ hl))
    split
    · rename_i w' hrun
      unfold OpR at hop
      rw [hrun] at hop
      exact hop.elim
    · exact key

/-- A deferred closure, called where nothing panics: it asks for a panic first, and there is none. -/
def evQ (P : Program) (call : CallE) (n : Nat) (g : FuncId) (args : List AV) (H : AHeap) : Ev (AHeap × List Nat) :=
  match P.funcs[g]? with
  | none => .bad [9100, g]
  | some fn => match fn.body with
    | some (.seq (.region id ops false) rest) => match ops.toList with
      | o :: r => match o.guard, o.op with
        | none, .call { callee := .builtin .recover, .. } =>
          match evR P call ops r none (putA (args ++ List.replicate (fn.ntmps - args.length) .any) o.dst (.sc .nilIface)) H with
          | .ok (T1, H1, L) => match evC P call n rest T1 H1 with
            | .ok (.normal, T2, H2, W) => match resultC P H2 fn T2 with
              | some _ => .ok (H2, wrs L ++ W)
              | none => .bad [9103, g]
            | .ok _ => .bad [9104, g]
            | .bad tr => .bad (10001 :: g :: tr)
          | .bad tr => .bad (10002 :: g :: tr)
        | _, _ => .bad [9105, g]
      | [] => .bad [9106, g]
    | _ => .bad [9107, g]

theorem evQ_ok {P : Program} {call : CallE} (hm : P.follows .mixedOrders = true) (hc : CallOk P call) {n : Nat} {g : FuncId} {args : List AV} {H H' : AHeap} {Wr : List Nat} (h : evQ P call n g args H = .ok (H', Wr)) :
    (∀ (E : Env) (w0 w : World) (vs : Array Value), Good E H w0 w → RelL E args vs → CallsD P g vs .returning w fun e u' w' => u' = .returning ∧ (∃ v, e = .returned v) ∧ ∃ E', Ext H.length (· ∈ Wr) E H w E' H' w' ∧ Good E' H' w0 w') ∧ Keeps H H' Wr := by
  unfold evQ at h
  split at h
  · cases h
  · rename_i fn hfn
    split at h
    · rename_i id ops rest hbody
      split at h
      · rename_i o r hops
        split at h
        · rename_i cargs cats hgd hop
          split at h
          · rename_i T1 H1 L hr
            split at h
            · rename_i T2 H2 W hcode
              split at h
              · rename_i x hres
                cases h
                have hsz : ops = (o :: r).toArray := by apply Array.ext'; simpa using hops
                have hidx : ∀ (j : Nat) (q : Oper), r[j]? = some q → ops[1 + j]? = some q := fun j q hq => by
                  rw [hsz]; simpa [Nat.add_comm] using hq
                obtain ⟨hch, hk1⟩ := evR_chain hc r 1 _ _ _ _ _ _ hidx hr
                have ok2 := evC_ok hm hc n rest _ _ _ _ _ _ hcode
                refine ⟨fun E w0 w vs hg hrel => ?_, hk1.trans ok2.2⟩
                refine callsD_of_wpS hfn hbody (fun c₀ cs hmode => ?_)
                have ht0 : RelT E (args ++ List.replicate (fn.ntmps - args.length) .any) (vs ++ Array.replicate (fn.ntmps - vs.size) undef) := by
                  have h0 := relL_append hrel (k := (⟨by simp [hrel.1], fun i x hx => by
                    have := List.mem_of_getElem? hx
                    rw [List.mem_replicate] at this
                    rw [this.2]; exact .any _⟩ : RelL E (List.replicate (fn.ntmps - args.length) .any) (Array.replicate (fn.ntmps - vs.size) undef)))
                  exact h0
                refine wpS_seq (wpS_region ?_)
                have hrange : List.range ops.size = 0 :: (List.range r.length).map (1 + ·) := by
                  rw [hsz]
                  simp only [List.size_toArray, List.length_cons, List.range_succ_eq_map]
                  congr 1
                  refine List.map_congr_left (fun a _ => ?_)
                  omega
                rw [hrange]
                have ho0 : ops[0]? = some o := by rw [hsz]; rfl
                have w1 : ∀ t : Array Value, Region.wanted o (yielded ops t) = true := fun a => by unfold Region.wanted; rw [hgd]
                simp only [wpOpsS, ho0, w1, if_true]
                have hrun : ∀ a : Act, (execOp a.eval o).run P w = .ok .recover w := fun a => by
                  simp only [execOp, hop, resolve, pure_bind, invoke, builtin, Sem.run_pure]
                rw [hrun]
                have hrec : recoverD (c₀ :: cs) = none := by simp [recoverD, hmode]
                simp only [hrec]
                refine hch.run.soundS (Nat.le_refl _) hg (put_rel (a := { tmps := vs ++ Array.replicate (fn.ntmps - vs.size) undef, defers := [] }) ht0 o.dst (.sc _ rfl)) (fun E1 a1 w1 ex1 g1 t1 d1 => ?_)
                have d1' : a1.defers = [] := by rw [d1, put_defers']
                refine wpS_of_wp (wp_mono (ok2.1 H.length (· ∈ W) hk1.1 (fun l hl _ => hl) E1 w0 w1 a1 [] hk1.1 g1 t1 d1') ?_)
                rintro e a2 w2 ⟨E2, y, T3, H3, ⟨rfl, rfl, rfl⟩, rx, ex2, g2, t2, d2⟩
                cases rx
                obtain ⟨v, hv, _⟩ := resultC_run g2 t2 hres
                refine ⟨d2, .returning, by rw [← hmode], v, hv, rfl, ⟨v, rfl⟩, E2, ?_, g2⟩
                exact (ex1.weaken (Nat.le_refl _) (fun l _ hl => List.mem_append_left _ hl)).trans (ex2.weaken (Nat.le_refl _) (fun l _ hl => List.mem_append_right _ hl))
              · cases h
            · cases h
            · cases h
          · cases h
        · cases h
      · cases h
    · cases h

/-- On the way out, where nothing panics. -/
def LeavesM (P : Program) (fn : Func) (tmps : Array Value) (R : Ending → World → Prop) : List Deferred → World → Prop
  | [], w => ∃ v, (results fn tmps).run P w = .ok v w ∧ R (.returned v) w
  | d :: ds, w => (∃ r w', d.target = .collected r ∧ (Instr.takeDeferred r).run P w = .ok [] w' ∧ LeavesM P fn tmps R ds w') ∨
      (∃ fv cap f args, d.target = .fn fv cap ∧ (invoke d.target d.args).run P w = .ok (.enter f args) w ∧ CallsD P f args .returning w fun e u' w' => u' = .returning ∧ (∃ v, e = .returned v) ∧ LeavesM P fn tmps R ds w')

theorem leavesM_steps {P : Program} {fn : Func} {tmps : Array Value} {R : Ending → World → Prop} : ∀ (ds : List Deferred) (w : World) (fr : Frame) (cs : List Frame), fr.mode = .returning → fr.defers = ds → fr.tmps = tmps → P.funcs[fr.fn]? = some fn → fr.kind = .normal → LeavesM P fn tmps R ds w →
    ∃ e w' fr', R e w' ∧ Comes P (lone fr cs w) (lone fr' cs w') e ∧ fr'.fn = fr.fn ∧ fr'.leaving P w' e := by
  intro ds
  induction ds with
  | nil =>
    intro w fr cs hu hd ht hf hk h
    obtain ⟨v, hr, hR⟩ := h
    exact ⟨.returned v, w, fr, hR, Steps.refl P _, rfl, hu, hd, hk, fn, hf, ht ▸ hr⟩
  | cons d ds ih =>
    intro w fr cs hu hd ht hf hk h
    rcases h with ⟨r, w', htar, htake, hrest⟩ | ⟨fv, cap, f, args, htar, hinv, hcall⟩
    · have h1 := step_collected (cs := cs) (by rw [hu]; simp) hd htar htake
      obtain ⟨e', w'', fr', hR', hs', hfn', hl'⟩ := ih w' { fr with defers := [] ++ ds } cs hu rfl ht hf hk hrest
      exact ⟨e', w'', fr', hR', Comes.of_steps (.one h1) hs', hfn', hl'⟩
    · have h1 := step_defer (cs := cs) (by rw [hu]; simp) hd htar hinv
      obtain ⟨e, u', w', frX, ⟨rfl, ⟨v, rfl⟩, hR⟩, hsteps, hkX, hgo⟩ := hcall { fr with defers := ds } cs hu
      have h2 := step_going_returned (c := { { fr with defers := ds } with mode := .returning }) (cs := cs) hkX hgo
      obtain ⟨e', w'', fr', hR', hs', hfn', hl'⟩ := ih w' { { { fr with defers := ds } with mode := .returning } with mode := settle .returning } cs rfl rfl ht hf hk hR
      exact ⟨e', w'', fr', hR', Comes.of_steps (.head h1 (Steps.trans hsteps (.one h2))) hs', hfn', hl'⟩

theorem calls_of_wp_marks {P : Program} {f : FuncId} {fn : Func} {c : Code} {args : Array Value} {w : World} {R : Ending → World → Prop} (hf : P.funcs[f]? = some fn) (hb : fn.body = some c)
    (h : c.wp P (fun e a w => (e = .normal ∨ e = .ret) ∧ LeavesM P fn a.tmps R a.defers w) { tmps := args ++ Array.replicate (fn.ntmps - args.size) undef, defers := [] } w) : Calls P f args w R := by
  intro cs
  let b : Frame := { (default : Frame) with fn := f, kind := .normal }
  have henter : Frame.enter P f args .normal =
      b.at { tmps := args ++ Array.replicate (fn.ntmps - args.size) undef, defers := [] } [.code c] := by
    simp [Frame.enter, Frame.at, hf, hb, b]
  obtain ⟨e, a', w', ⟨he, hq⟩, harr⟩ := h b [] cs
  rw [← henter] at harr
  rcases he with rfl | rfl
  · obtain ⟨e', w'', fr', hR, hs, hfn, hl⟩ := leavesM_steps a'.defers w' { b.at a' [] with mode := .returning } cs rfl rfl rfl hf rfl hq
    exact ⟨e', w'', fr', hR, Comes.of_steps (Steps.trans harr (.one step_end)) hs, hfn, hl⟩
  · obtain ⟨todo, hs₀⟩ := harr
    obtain ⟨e', w'', fr', hR, hs, hfn, hl⟩ := leavesM_steps a'.defers w' { b.at a' todo with mode := .returning } cs rfl rfl rfl hf rfl hq
    exact ⟨e', w'', fr', hR, Comes.of_steps hs₀ hs, hfn, hl⟩

def evQs (P : Program) (call : CallE) (n : Nat) : DefE → AHeap → Ev (AHeap × List Nat)
  | [], H => .ok (H, [])
  | .call g args :: D, H => match evQ P call n g args H with
    | .ok (H1, W1) => match evQs P call n D H1 with
      | .ok (H2, W2) => .ok (H2, W1 ++ W2)
      | .bad tr => .bad tr
    | .bad tr => .bad tr
  | .mark l :: D, H => match H[l]? with
    | some (.mark .defs) => match evQs P call n D (H.set l .dead) with
      | .ok (H2, W2) => .ok (H2, [l] ++ W2)
      | .bad tr => .bad tr
    | _ => .bad [9200]

theorem evQs_ok {P : Program} {call : CallE} (hm : P.follows .mixedOrders = true) (hc : CallOk P call) {n : Nat} {fn : Func} {tmps : Array Value} {R : Ending → World → Prop} : ∀ (D : DefE) (H H' : AHeap) (Wr : List Nat), evQs P call n D H = .ok (H', Wr) →
    Keeps H H' Wr ∧ ∀ (E : Env) (w0 w : World) (ds : List Deferred), Good E H w0 w → RelDs P E D ds →
      (∀ (E' : Env) (w' : World), Ext H.length (· ∈ Wr) E H w E' H' w' → Good E' H' w0 w' → ∃ v, (results fn tmps).run P w' = .ok v w' ∧ R (.returned v) w') → LeavesM P fn tmps R ds w
  | [], H, H', Wr, h => by
    cases h
    refine ⟨.refl _ _, fun E w0 w ds hg hd hk => ?_⟩
    cases hd
    exact hk E w (.refl _ _ _ _ _) hg
  | .call g args :: D, H, H', Wr, h => by
    unfold evQs at h
    split at h
    · rename_i H1 W1 h1
      split at h
      · rename_i H2 W2 h2
        cases h
        obtain ⟨hq, k1⟩ := evQ_ok hm hc h1
        obtain ⟨k2, hrest⟩ := evQs_ok hm hc D _ _ _ h2
        refine ⟨k1.trans k2, fun E w0 w ds hg hd hk => ?_⟩
        cases hd with
        | @cons q d D ds hd hds =>
          obtain ⟨⟨fn', c', hf', hn', hb'⟩, cap, vs, ht, rfl, hrel⟩ := hd
          obtain ⟨target, dargs⟩ := d
          simp only at ht
          subst ht
          refine .inr ⟨_, _, g, dargs ++ cap, rfl, ?_, ?_⟩
          · have h1 : fn'.name ≠ "runtime.NumGoroutine" := by simpa using hn'
            simp [invoke, callFunc, hf', h1, hb']
          · refine (hq E w0 w _ hg hrel).mono ?_
            rintro e u' w' ⟨rfl, ⟨v, rfl⟩, E1, ex1, g1⟩
            refine ⟨rfl, ⟨v, rfl⟩, hrest E1 w0 w' ds g1 (hds.mono ex1.le) (fun E2 w2 ex2 g2 => hk E2 w2 ?_ g2)⟩
            exact (ex1.weaken (Nat.le_refl _) (fun l _ hl => List.mem_append_left _ hl)).trans (ex2.weaken k1.1 (fun l _ hl => List.mem_append_right _ hl))
      · cases h
    · cases h
  | .mark l :: D, H, H', Wr, h => by
    unfold evQs at h
    split at h
    · rename_i hl
      split at h
      · rename_i H2 W2 h2
        cases h
        obtain ⟨k2, hrest⟩ := evQs_ok hm hc D _ _ _ h2
        refine ⟨(Keeps.set H l .dead).trans k2, fun E w0 w ds hg hd hk => ?_⟩
        cases hd with
        | @cons q d D ds hd hds =>
          obtain ⟨b, ht, hφ⟩ := hd
          obtain ⟨_, ob, h3, h4⟩ := hg.obj hl b hφ
          have h4 : ob = .deferred (some []) := h4
          subst h4
          refine .inl ⟨b, { w with heap := w.heap.setIfInBounds b (.deferred none) }, ht, ?_, ?_⟩
          · have hget : (getObj b).run P w = .ok (.deferred (some [])) w := by simp [getObj, Sem.run, h3]
            have hset : ∀ o', (setObj b o').run P w = .ok () { w with heap := w.heap.setIfInBounds b o' } := fun o' => by simp [setObj, Sem.run, h3]
            simp only [Instr.takeDeferred, Sem.run_bind, hget, Result.andThen_ok, hset, Sem.run_pure]
          · refine hrest E w0 _ ds (hg.kill hl hφ _) hds (fun E2 w2 ex2 g2 => hk E2 w2 ?_ g2)
            exact (kill_ext (n0 := H.length) (W := (· ∈ [l] ++ W2)) hg (fun _ => by simp) hl hφ).trans (ex2.weaken (by simp) (fun z _ hz => List.mem_append_right _ hz))
      · cases h
    · cases h

/-- A whole function. -/
def evG (P : Program) (orc : FuncId → List AV → AHeap → Option (AV × AHeap × List Nat)) : Nat → CallE
  | 0, g, _, _ => .bad [8000, g]
  | n + 1, g, args, H => match orc g args H with
    | some r => .ok r
    | none => match P.funcs[g]? with
      | none => .bad [9000, g]
      | some fn => match fn.body with
        | none => .bad [9001, g]
        | some c => if (fn.name == "runtime.NumGoroutine") = true then .bad [9002, g] else
          match evB P (evG P orc n) n c (args ++ List.replicate (fn.ntmps - args.length) .any) H [] with
          | .bad tr => .bad (10000 :: g :: tr)
          | .ok (x, T, H1, W1, D) => match x with
            | .normal | .ret => match evQs P (evG P orc n) n D H1 with
              | .bad tr => .bad (10003 :: g :: tr)
              | .ok (H2, W2) => match resultC P H2 fn T with
                | some x => .ok (x, H2, below H.length (W1 ++ W2))
                | none => .bad [9003, g]
            | _ => .bad [9004, g]

theorem below_mem {n l : Nat} {W : List Nat} (hl : l < n) (h : l ∈ W) : l ∈ below n W := by
  unfold below
  rw [List.mem_filter]
  exact ⟨h, by simpa using hl⟩

theorem evG_ok {P : Program} (hm : P.follows .mixedOrders = true) {orc : FuncId → List AV → AHeap → Option (AV × AHeap × List Nat)} (horc : ∀ g args H x H1 Wr, orc g args H = some (x, H1, Wr) → Ctr P g args x H H1 Wr) : ∀ n, CallOk P (evG P orc n)
  | 0 => fun g args H x H1 Wr h => by cases h
  | n + 1 => fun g args H x H' Wr h => by
    have hc := evG_ok hm horc n
    unfold evG at h
    split at h
    · rename_i r hr
      cases h
      exact horc _ _ _ _ _ _ hr
    · split at h
      · cases h
      · rename_i fn hfn
        split at h
        · cases h
        · rename_i c hbody
          split at h
          · cases h
          · rename_i hname
            split at h
            · cases h
            · rename_i y T H1 W1 D hb
              have hbo := evB_ok hm hc n c _ _ _ _ _ _ _ _ hb
              have fin : (match evQs P (evG P orc n) n D H1 with
                  | .bad tr => (.bad (10003 :: g :: tr) : Ev (AV × AHeap × List Nat))
                  | .ok (H2, W2) => match resultC P H2 fn T with
                    | some x => .ok (x, H2, below H.length (W1 ++ W2))
                    | none => .bad [9003, g]) = .ok (x, H', Wr) → (y = .normal ∨ y = .ret) → Ctr P g args x H H' Wr := by
                intro h hy
                split at h
                · cases h
                · rename_i H2 W2 hq
                  split at h
                  · rename_i z hz
                    cases h
                    have hk := (evQs_ok (fn := fn) (tmps := #[]) (R := fun _ _ => True) hm hc D _ _ _ hq).1
                    have hkeep := hbo.2.trans hk
                    refine ⟨⟨fn, c, hfn, by simpa using hname, hbody⟩, ?_, hkeep.1, fun l hl hn => hkeep.2 l hl (fun hm => hn (below_mem hl hm))⟩
                    intro E w0 w vs hg hr
                    refine calls_of_wp_marks hfn hbody ?_
                    have ht : RelT E (args ++ List.replicate (fn.ntmps - args.length) .any) (vs ++ Array.replicate (fn.ntmps - vs.size) undef) := by
                      have h0 := relL_append hr (k := (⟨by simp [hr.1], fun i x hx => by
                        have := List.mem_of_getElem? hx
                        rw [List.mem_replicate] at this
                        rw [this.2]; exact .any _⟩ : RelL E (List.replicate (fn.ntmps - args.length) .any) (Array.replicate (fn.ntmps - vs.size) undef)))
                      exact h0
                    refine wp_mono (hbo.1 E w0 w ⟨_, []⟩ hg ht .nil) ?_
                    rintro e a1 w1 ⟨E1, rx, ex1, g1, t1, d1⟩
                    have hleave : LeavesM P fn a1.tmps (fun e w' => ∃ E', RelE E' (.ret x) e ∧ Ext H.length (· ∈ below H.length (W1 ++ W2)) E H w E' H' w' ∧ Good E' H' w0 w') a1.defers w1 := by
                      refine (evQs_ok (fn := fn) (tmps := a1.tmps) hm hc D _ _ _ hq).2 E1 w0 w1 _ g1 d1 (fun E2 w2 ex2 g2 => ?_)
                      obtain ⟨v, hv, hrel⟩ := resultC_run g2 (t1.mono ex2.le) hz
                      refine ⟨v, hv, E2, .ret _ _ hrel, ?_, g2⟩
                      exact (ex1.weaken (Nat.le_refl _) (fun l hl hm => below_mem hl (List.mem_append_left _ hm))).trans (ex2.weaken hbo.2.1 (fun l hl hm => below_mem hl (List.mem_append_right _ hm)))
                    rcases hy with rfl | rfl
                    · cases rx; exact ⟨.inl rfl, hleave⟩
                    · cases rx; exact ⟨.inr rfl, hleave⟩
                  · cases h
              split at h
              · exact fin h (.inl rfl)
              · exact fin h (.inr rfl)
              · cases h
end Go.Proofs.YtiipaliigpkfhaaGreat.Ab

/- Part 23: what a call does where nothing is known of the heap holds at every heap. -/
set_option linter.unusedVariables false
set_option linter.unusedSimpArgs false
set_option maxRecDepth 100000
namespace Go.Proofs.YtiipaliigpkfhaaGreat.Ab
open Go Go.RowKit

theorem ctr_frame {P : Program} {f : FuncId} {args : List AV} {u : Value} {H1 : AHeap} {Wr : List Nat} (h : Ctr P f args (.sc u) [] H1 Wr) (hargs : ∀ a ∈ args, LF a) (H : AHeap) : Ctr P f args (.sc u) H H [] := by
  refine ⟨h.1, fun E w0 w vs hg hr => ?_, .refl _ _⟩
  have g0 : Good E.data [] w w := by
    refine ⟨.refl _ _, fun h => hg.snap h, fun {l o} h => by simp at h, fun {l l' b} h => ?_, fun _ => ⟨rfl, fun _ => rfl⟩, fun h => by cases h⟩
    unfold owns at h
    simp at h
  have hr0 : RelL E.data args vs := ⟨hr.1, fun i x hx => (hr.2 i x hx).lf (hargs x (List.mem_of_getElem? hx)) (fun h => h)⟩
  refine (h.2.1 E.data w w vs g0 hr0).mono ?_
  rintro e w' ⟨E', re, ex, g⟩
  cases re with
  | ret x v hv =>
    cases hv with
    | sc v hp =>
      have hb := g.below
      have hsame : ∀ k, k < w.heap.size → w'.heap[k]? = w.heap[k]? := fun k hk => hb.block k hk
      refine ⟨E, .ret _ _ (.sc _ hp), ⟨.refl E, ex.size, Nat.le_refl _, fun _ _ => rfl, fun _ _ ho => hsame _ (hg.ownlt ho), fun _ => rfl, fun hb h => ⟨hsame _ hb, h, fun _ => rfl⟩⟩, ?_⟩
      refine ⟨hg.below.trans (hb.mono hg.below.size), fun {b o u} h => ?_, fun {l o} h => ?_, hg.sep, hg.fresh, fun h => Nat.lt_of_lt_of_le (hg.φlt h) ex.size⟩
      · rw [cell_same (hsame b (hg.Slt h))]
        exact hg.snap h
      · exact (hg.obj h).step h (.refl E) (fun _ h => h) (fun _ => rfl) (fun _ _ _ _ h => h) (fun b hb => hsame b (hg.ownlt hb))


/-- What was made is forgotten. -/
theorem ctr_forget {P : Program} {f : FuncId} {args : List AV} {x : AV} {H H1 : AHeap} (h : Ctr P f args x H H1 []) (hl : LF x) : Ctr P f args x H H [] := by
  refine ⟨h.1, fun E w0 w vs hg hr => ?_, .refl _ _⟩
  refine (h.2.1 E w0 w vs hg hr).mono ?_
  rintro e w' ⟨E', re, ex, g⟩
  cases re with
  | ret x v hv =>
    obtain ⟨E2, ex2, g2, hv2⟩ := forget_state hg (ex.weaken (Nat.le_refl _) (fun l _ h => by simp at h)) g hv hl
    exact ⟨E2, .ret _ _ hv2, ex2.weaken (Nat.le_refl _) (fun _ _ h => h.elim), g2⟩

/-! ### Labels above a line are forgotten -/
def ownLB (n : Nat) : Own → Bool
  | .tok t => decide (t < n)
  | _ => true
mutual
def lbA (n : Nat) : AV → Bool
  | .any => true
  | .sc _ => true
  | .rptr _ => true
  | .ptr l _ => decide (l < n)
  | .mapr l => decide (l < n)
  | .stamp l _ => decide (l < n)
  | .msl l _ _ => decide (l < n)
  | .asl l _ _ => decide (l < n)
  | .yfn l => decide (l < n)
  | .rsl _ _ _ _ own => ownLB n own
  | .fn _ a b => lbAs n a && lbAs n b
  | .ifc _ x => lbA n x
  | .agg cs => lbAs n cs
  | .tup cs => lbAs n cs
def lbAs (n : Nat) : List AV → Bool
  | [] => true
  | x :: r => lbA n x && lbAs n r
end

def objLB (n : Nat) : AObj → Bool
  | .cells cs => lbAs n cs
  | .map es => es.all fun e => lbA n e.2
  | .iter m => decide (m < n)
  | .mark (.loop T _ _ _ _) => lbAs n T
  | _ => true

theorem lbAs_mem {n : Nat} : ∀ {l : List AV}, lbAs n l = true → ∀ x ∈ l, lbA n x = true
  | [], _, x, hx => by cases hx
  | y :: r, h, x, hx => by
    simp only [lbAs, Bool.and_eq_true] at h
    rcases List.mem_cons.1 hx with rfl | hx
    · exact h.1
    · exact lbAs_mem h.2 x hx

def Env.cut (E : Env) (n : Nat) : Env := { φ := fun l => if l < n then E.φ l else none, S := E.S, G := fun t m => if t < n then E.G t m else none }

theorem Rel.cut {E : Env} {n : Nat} {x : AV} {v : Value} (h : Rel E x v) (hl : lbA n x = true) : Rel (E.cut n) x v := by
  induction h with
  | any v => exact .any v
  | sc v h => exact .sc v h
  | ptr l o b h => simp only [lbA, decide_eq_true_eq] at hl; exact .ptr l o b (by simp [Env.cut, hl, h])
  | rptr cs b off u h k ih => exact .rptr cs b off u (fun j x hj => h j x hj) (fun j x hj => k j x hj)
  | rnil sz el own h => exact .rnil sz el own h
  | rodd sz el own a h => exact .rodd sz el own a h
  | rsl sz n' el own b off c u hn ho hc hlen h1 h k ih =>
    refine .rsl sz n' el own b off c u hn ?_ hc hlen h1 (fun i hi j x hj => h i hi j x hj) (fun i hi j x hj => k i hi j x hj)
    cases own with
    | non => exact ho
    | tight => exact ho
    | tok t =>
      simp only [lbA, ownLB, decide_eq_true_eq] at hl
      exact ⟨by simp [Env.cut, hl, ho.1], ho.2⟩
  | fn f first caps us vs h1 h2 k1 k2 i1 i2 =>
    simp only [lbA, Bool.and_eq_true] at hl
    exact .fn f first caps us vs h1 h2 (fun j x hj => i1 j x hj (lbAs_mem hl.1 x (List.mem_of_getElem? hj))) (fun j x hj => i2 j x hj (lbAs_mem hl.2 x (List.mem_of_getElem? hj)))
  | ifc t x v k ih => simp only [lbA] at hl; exact .ifc t x v (ih hl)
  | agg cs us h k ih => simp only [lbA] at hl; exact .agg cs us h (fun j x hj => ih j x hj (lbAs_mem hl x (List.mem_of_getElem? hj)))
  | tup cs us h k ih => simp only [lbA] at hl; exact .tup cs us h (fun j x hj => ih j x hj (lbAs_mem hl x (List.mem_of_getElem? hj)))
  | mapr l b h => simp only [lbA, decide_eq_true_eq] at hl; exact .mapr l b (by simp [Env.cut, hl, h])
  | stamp l i m h => simp only [lbA, decide_eq_true_eq] at hl; exact .stamp l i m (by simp [Env.cut, hl, h])
  | msl l sz m b h hn => simp only [lbA, decide_eq_true_eq] at hl; exact .msl l sz m b (by simp [Env.cut, hl, h]) hn
  | asl l sz m b c h hn => simp only [lbA, decide_eq_true_eq] at hl; exact .asl l sz m b c (by simp [Env.cut, hl, h]) hn
  | yfn l b h => simp only [lbA, decide_eq_true_eq] at hl; exact .yfn l b (by simp [Env.cut, hl, h])

theorem take_get {α : Type} {l : List α} {n i : Nat} {x : α} (h : (l.take n)[i]? = some x) : i < n ∧ l[i]? = some x := by
  rw [List.getElem?_take] at h
  split at h
  · rename_i hi; exact ⟨hi, h⟩
  · cases h

theorem owns_cut {E : Env} {H : AHeap} {n l b : Nat} (h : owns (E.cut n) (H.take n) l b) : l < n ∧ owns E H l b := by
  unfold owns at h ⊢
  cases hl : (H.take n)[l]? with
  | none => rw [hl] at h; exact h.elim
  | some o =>
    obtain ⟨hn, hH⟩ := take_get hl
    rw [hl] at h
    rw [hH]
    refine ⟨hn, ?_⟩
    cases o with
    | dead => exact h
    | cells cs => simpa [Env.cut, hn] using h
    | tail m sz => simpa [Env.cut, hn] using h
    | map es => simpa [Env.cut, hn] using h
    | iter m => simpa [Env.cut, hn] using h
    | mark k => simpa [Env.cut, hn] using h

theorem Good.trim {E : Env} {H : AHeap} {w0 w : World} {n : Nat} (g : Good E H w0 w) (hk : ∀ o ∈ H.take n, objLB n o = true) : Good (E.cut n) (H.take n) w0 w := by
  refine ⟨g.below, fun h => g.snap h, fun {l o} h => ?_, fun {l l' b} h1 h2 => g.sep (owns_cut h1).2 (owns_cut h2).2, fun {l} h => ?_, fun {l b} h => ?_⟩
  · obtain ⟨hn, hH⟩ := take_get h
    have ho := g.obj hH
    have hb := hk o (List.mem_of_getElem? h)
    have e1 : (E.cut n).φ l = E.φ l := by simp [Env.cut, hn]
    have e2 : ∀ m, (E.cut n).G l m = E.G l m := fun m => by simp [Env.cut, hn]
    cases o with
    | dead => exact trivial
    | cells cs =>
      intro b hb'
      obtain ⟨h1, h2, arr, t, h3, h4⟩ := ho b (e1 ▸ hb')
      refine ⟨h1, h2, arr, t, h3, fun j x hj => ?_⟩
      obtain ⟨u, hu, hr⟩ := h4 j x hj
      exact ⟨u, hu, hr.cut (lbAs_mem hb x (List.mem_of_getElem? hj))⟩
    | tail m sz =>
      obtain ⟨b, c, arr, t, h1, h2⟩ := ho
      exact ⟨b, c, arr, t, (e2 m).trans h1, h2.1, h2.2.1, h2.2.2.1, h2.2.2.2.1, h2.2.2.2.2.1, h2.2.2.2.2.2.1, fun k hk => (e2 k).trans (h2.2.2.2.2.2.2 k hk)⟩
    | map es =>
      intro b hb'
      obtain ⟨h1, ms, ck, h3, h4, h5, h6, h7, h8⟩ := ho b (e1 ▸ hb')
      refine ⟨h1, ms, ck, h3, h4, fun j e hj => ?_, h6, h7, fun i x hx => h8 i x ((e2 i).symm.trans hx)⟩
      obtain ⟨m, hm, hm2, hr⟩ := h5 j e hj
      simp only [objLB, List.all_eq_true] at hb
      exact ⟨m, hm, hm2, hr.cut (hb e (List.mem_of_getElem? hj))⟩
    | iter m =>
      intro b hb'
      obtain ⟨h1, r, ck, h3, h4⟩ := ho b (e1 ▸ hb')
      simp only [objLB, decide_eq_true_eq] at hb
      exact ⟨h1, r, ck, by simp [Env.cut, hb, h3], h4⟩
    | mark k =>
      intro b hb'
      obtain ⟨h1, ob, h3, h4⟩ := ho b (e1 ▸ hb')
      refine ⟨h1, ob, h3, ?_⟩
      cases k with
      | defs => exact h4
      | loop T ps as bd st =>
        obtain ⟨r, q1, q2, q3⟩ := h4
        simp only [objLB] at hb
        exact ⟨r, q1, ⟨q2.1, fun i x hx => (q2.2 i x hx).cut (lbAs_mem hb x (List.mem_of_getElem? hx))⟩, q3⟩
  · by_cases hn : l < n
    · have : H.length ≤ l := by simp at h; omega
      have := g.fresh this
      exact ⟨by simp [Env.cut, this.1], fun m => by simp [Env.cut, this.2]⟩
    · exact ⟨by simp [Env.cut, hn], fun m => by simp [Env.cut, hn]⟩
  · simp only [Env.cut] at h
    split at h
    · exact g.φlt h
    · cases h


theorem owns_pre {E : Env} {H J : AHeap} {l b : Nat} (h : owns E H l b) : owns E (H ++ J) l b := by
  have hl := owns_len h
  unfold owns at h ⊢
  rwa [List.getElem?_append_left hl]

/-- What was done to a part, seen in the whole. -/
theorem merge_state {E E' : Env} {H2 J : AHeap} {w0 w w' : World} {n0 : Nat} {W : Nat → Prop} (hg : Good E (H2 ++ J) w0 w) (ex : Ext H2.length (fun _ => False) (E.cut H2.length) H2 w E' H2 w') (g : Good E' H2 w0 w') (hH : ∀ o ∈ H2, objLB H2.length o = true) :
    ∃ E2, Ext n0 W E (H2 ++ J) w E2 (H2 ++ J) w' ∧ Good E2 (H2 ++ J) w0 w' ∧ ∀ (y : AV) (v : Value), Rel E' y v → lbA H2.length y = true → Rel E2 y v := by
  have htake : (H2 ++ J).take H2.length = H2 := by simp
  have hback : ∀ l b, owns (E.cut H2.length) H2 l b → l < H2.length ∧ owns E (H2 ++ J) l b := by
    intro l b ho
    have ho' : owns (E.cut H2.length) ((H2 ++ J).take H2.length) l b := by rw [htake]; exact ho
    exact owns_cut ho'
  have hφ : ∀ l, l < H2.length → E'.φ l = E.φ l := fun l hl => (ex.old hl).trans (by simp [Env.cut, hl])
  let E2 : Env := { φ := E.φ, S := E'.S, G := fun t m => if t < H2.length then E'.G t m else E.G t m }
  have hle' : (E'.cut H2.length).le E2 := by
    refine ⟨fun {l b} hl => ?_, fun hl => hl, fun {k m z} hl => ?_⟩
    · simp only [Env.cut] at hl
      split at hl
      · rename_i hk; exact (hφ l hk).symm.trans hl
      · cases hl
    · simp only [Env.cut] at hl
      split at hl
      · rename_i hk; simp only [E2, hk, if_true]; exact hl
      · cases hl
  have conv : ∀ {y : AV} {v : Value}, Rel E' y v → lbA H2.length y = true → Rel E2 y v := fun hr hl => (hr.cut hl).mono hle'
  have hle : E.le E2 := by
    refine ⟨fun hl => hl, fun {b o u} hl => ex.le.S hl, fun {k m z} hl => ?_⟩
    by_cases hk : k < H2.length
    · simp only [E2, hk, if_true]
      exact ex.le.G (by simp only [Env.cut, hk, if_true]; exact hl)
    · simp only [E2, hk, if_false]; exact hl
  have free : ∀ l b, ¬ l < H2.length → owns E (H2 ++ J) l b → ∀ k, ¬ owns (E.cut H2.length) H2 k b := by
    intro l b hl ho k hk
    obtain ⟨h1, h2⟩ := hback k b hk
    have := hg.sep h2 ho
    omega
  have hsame : ∀ l b, owns E (H2 ++ J) l b → w'.heap[b]? = w.heap[b]? := by
    intro l b ho
    by_cases hl : l < H2.length
    · have ho' : owns (E.cut H2.length) H2 l b := by
        unfold owns at ho ⊢
        rw [List.getElem?_append_left hl] at ho
        cases hq : H2[l]? with
        | none => rw [hq] at ho; exact ho
        | some q =>
          rw [hq] at ho
          cases q with
          | dead => exact ho
          | cells cs => simpa [Env.cut, hl] using ho
          | tail m sz => simpa [Env.cut, hl] using ho
          | map es => simpa [Env.cut, hl] using ho
          | iter m => simpa [Env.cut, hl] using ho
          | mark k => simpa [Env.cut, hl] using ho
      exact ex.keep hl (fun hf => hf) ho'
    · exact (ex.stay (hg.ownlt ho) (free l b hl ho)).1
  -- who owns what at the end
  have own2 : ∀ l b, owns E2 (H2 ++ J) l b → (l < H2.length ∧ owns E' H2 l b) ∨ (¬ l < H2.length ∧ owns E (H2 ++ J) l b) := by
    intro l b ho
    by_cases hl : l < H2.length
    · refine .inl ⟨hl, ?_⟩
      unfold owns at ho ⊢
      rw [List.getElem?_append_left hl] at ho
      cases hq : H2[l]? with
      | none => rw [hq] at ho; exact ho
      | some q =>
        rw [hq] at ho
        cases q with
        | dead => exact ho
        | cells cs => exact (hφ l hl).trans ho
        | tail m sz => obtain ⟨z, hz⟩ := ho; exact ⟨z, by simpa only [E2, hl, if_true] using hz⟩
        | map es => exact (hφ l hl).trans ho
        | iter m => exact (hφ l hl).trans ho
        | mark k => exact (hφ l hl).trans ho
    · refine .inr ⟨hl, ?_⟩
      unfold owns at ho ⊢
      cases hq : (H2 ++ J)[l]? with
      | none => rw [hq] at ho; exact ho
      | some q =>
        rw [hq] at ho
        cases q with
        | dead => exact ho
        | cells cs => exact ho
        | tail m sz => obtain ⟨z, hz⟩ := ho; exact ⟨z, by simpa only [E2, hl, if_false] using hz⟩
        | map es => exact ho
        | iter m => exact ho
        | mark k => exact ho
  have gt := g.trim (n := H2.length) (by simpa using hH)
  have hself : H2.take H2.length = H2 := by simp
  rw [hself] at gt
  have good : Good E2 (H2 ++ J) w0 w' := by
    refine ⟨g.below, fun h => g.snap h, fun {l o} hl => ?_, fun {l l' b} h1 h2 => ?_, fun {l} hl => ?_, fun hl => Nat.lt_of_lt_of_le (hg.φlt hl) ex.size⟩
    · by_cases hk : l < H2.length
      · have hl' : H2[l]? = some o := by rwa [List.getElem?_append_left hk] at hl
        refine (gt.obj hl').step hl' hle' (fun b hb => ?_) (fun m => ?_) (fun b c _ _ hn => hn) (fun b _ => rfl)
        · simp only [Env.cut, hk, if_true]; exact (hφ l hk).trans hb
        · simp only [Env.cut, hk, if_true, E2]
      · refine (hg.obj hl).step hl hle (fun b hb => hb) (fun m => ?_) (fun b c hb _ hn => ?_) (fun b hb => hsame l b hb)
        · simp only [hk, if_false, E2]
        · exact ((ex.stay (hg.ownlt hb) (free l b hk hb)).2.2 c).trans hn
    · rcases own2 l b h1 with ⟨k1, o1⟩ | ⟨k1, o1⟩ <;> rcases own2 l' b h2 with ⟨k2, o2⟩ | ⟨k2, o2⟩
      · exact g.sep o1 o2
      · exact absurd o1 ((ex.stay (hg.ownlt o2) (free l' b k2 o2)).2.1 l)
      · exact absurd o2 ((ex.stay (hg.ownlt o1) (free l b k1 o1)).2.1 l')
      · exact hg.sep o1 o2
    · have := hg.fresh hl
      have hk : ¬ l < H2.length := by simp at hl; omega
      exact ⟨this.1, fun m => by simp only [E2, hk, if_false]; exact this.2 m⟩
  refine ⟨E2, ⟨hle, ex.size, Nat.le_refl _, fun _ _ => rfl, fun _ _ ho => hsame _ _ ho, fun _ => rfl, fun {b} hb h0 => ?_⟩, good, fun y v hr hl => conv hr hl⟩
  have hfree : ∀ k, ¬ owns (E.cut H2.length) H2 k b := fun k hk => h0 k (hback k b hk).2
  have hst := ex.stay hb hfree
  refine ⟨hst.1, fun l ho => ?_, fun o => hst.2.2 o⟩
  rcases own2 l b ho with ⟨_, o1⟩ | ⟨_, o1⟩
  · exact hst.2.1 l o1
  · exact h0 l o1

theorem good_part {E : Env} {H J : AHeap} {w0 w : World} (hg : Good E (H ++ J) w0 w) (hH : ∀ o ∈ H, objLB H.length o = true) : Good (E.cut H.length) H w0 w := by
  have htake : (H ++ J).take H.length = H := by simp
  have := hg.trim (n := H.length) (by rw [htake]; exact hH)
  rwa [htake] at this

/-! ### A row that was written becomes one that stays -/
theorem owns_kill {E : Env} {H : AHeap} {l k b : Nat} (h : owns E (H.set l .dead) k b) : owns E H k b ∧ k ≠ l := by
  by_cases hk : l = k
  · subst hk
    have hlt := owns_len h
    unfold owns at h
    rw [List.getElem?_set_self (by simpa using hlt)] at h
    exact h.elim
  · refine ⟨?_, fun e => hk e.symm⟩
    unfold owns at h ⊢
    rwa [List.getElem?_set_ne hk] at h

theorem Good.forgetObj {E : Env} {H : AHeap} {w0 w : World} (g : Good E H w0 w) (l : Nat) : Good E (H.set l .dead) w0 w := by
  refine ⟨g.below, fun h => g.snap h, fun {k o} h => ?_, fun {k k' b} h1 h2 => g.sep (owns_kill h1).1 (owns_kill h2).1, fun {k} h => g.fresh (by simpa using h), fun h => g.φlt h⟩
  by_cases hk : l = k
  · subst hk
    have hlt : l < H.length := by have := (List.getElem?_eq_some_iff.1 h).1; simpa using this
    rw [List.getElem?_set_self hlt] at h
    cases h
    exact trivial
  · rw [List.getElem?_set_ne hk] at h
    exact g.obj h

theorem freeze_state {E : Env} {H : AHeap} {w0 w : World} {n0 : Nat} {W : Nat → Prop} {l sz n : Nat} {cs : List AV} {v : Value} (g : Good E H w0 w) (hW : l < n0 → W l) (hl : H[l]? = some (.cells cs)) (hcl : cs.length = n * sz) (hlf : ∀ x ∈ cs, lf1 x = true) (hv : Rel E (.msl l sz n) v) :
    ∃ E', Ext n0 W E H w E' (H.set l .dead) w ∧ Good E' (H.set l .dead) w0 w ∧ Rel E' (.rsl false sz n (rowOf sz cs) .tight) v := by
  cases hv with
  | msl l sz n b hb hn =>
    obtain ⟨_, hS0, arr, t, hh, hr⟩ := g.obj hl b hb
    have hown : owns E H l b := by unfold owns; rw [hl]; exact hb
    have gk := g.forgetObj l
    have hfree : ∀ k, ¬ owns E (H.set l .dead) k b := fun k hk => (owns_kill hk).2 (g.sep (owns_kill hk).1 hown)
    have g' := gk.stay (b := b) (f := (arr[·]?)) hfree (fun o u h => by unfold World.cell?; rw [hh]; simpa using h)
    have hSb : ∀ o, (E.withS b (arr[·]?)).S b o = arr[o]? := fun o => by simp [Env.withS, hS0 o]
    refine ⟨E.withS b (arr[·]?), ⟨withS_le _ _ _, Nat.le_refl _, by simp, fun {k} hk hw => List.getElem?_set_ne (fun e => by subst e; exact hw (hW hk)), fun _ _ _ => rfl, fun _ => rfl, fun {x} hx h => ⟨rfl, fun k ho => ?_, fun o => ?_⟩⟩, g', ?_⟩
    · have ho' : owns E (H.set l .dead) k x := ho
      exact h k (owns_kill ho').1
    · have hne : x ≠ b := fun e => h l (e ▸ hown)
      simp [Env.withS, hne]
    · refine .rsl sz n _ .tight b 0 n (fun i j => arr.getD (i * sz + j) undef) hn rfl (Nat.le_refl _) (fun i hi => rowOf_length hcl hi) (fun i hi x hx => lf1_one (hlf x (List.mem_of_mem_drop (List.mem_of_mem_take hx)))) (fun i hi j x hj => ?_) (fun i hi j x hj => ?_)
      · have hj' := rowOf_get hj
        obtain ⟨u, hu, _⟩ := hr _ x hj'
        rw [hSb, Nat.zero_add, hu]
        simp [Array.getD_eq_getD_getElem?, hu]
      · have hj' := rowOf_get hj
        obtain ⟨u, hu, hrel⟩ := hr _ x hj'
        have e : arr.getD (i * sz + j) undef = u := by simp [Array.getD_eq_getD_getElem?, hu]
        rw [e]
        exact hrel.lf (lf1_LF (hlf x (List.mem_of_getElem? hj'))) (fun h => (withS_le E b (arr[·]?)).S h)

theorem ctr_freeze {P : Program} {f : FuncId} {args : List AV} {l sz n : Nat} {cs : List AV} {H H1 : AHeap} {W : List Nat} (h : Ctr P f args (.msl l sz n) H H1 W) (hn : H.length ≤ l) (hl : H1[l]? = some (.cells cs)) (hcl : cs.length = n * sz) (hlf : ∀ x ∈ cs, lf1 x = true) : Ctr P f args (.rsl false sz n (rowOf sz cs) .tight) H (H1.set l .dead) W := by
  refine ⟨h.1, fun E w0 w vs hg hr => ?_, by simpa using h.2.2.1, fun k hk hm => ?_⟩
  · refine (h.2.1 E w0 w vs hg hr).mono ?_
    rintro e w' ⟨E', re, ex, g⟩
    cases re with
    | ret x v hv =>
      obtain ⟨E2, ex2, g2, r2⟩ := freeze_state (n0 := H.length) (W := (· ∈ W)) g (fun hlt => by omega) hl hcl hlf hv
      exact ⟨E2, .ret _ _ r2, ex.trans ex2, g2⟩
  · rw [List.getElem?_set_ne (by omega)]; exact h.2.2.2 k hk hm

/-- Beside what else there is. -/
theorem ctr_beside {P : Program} {f : FuncId} {args : List AV} {x : AV} {H : AHeap} (h : Ctr P f args x H H []) (hargs : lbAs H.length args = true) (hx : lbA H.length x = true) (hH : ∀ o ∈ H, objLB H.length o = true) (J : AHeap) : Ctr P f args x (H ++ J) (H ++ J) [] := by
  refine ⟨h.1, fun E w0 w vs hg hr => ?_, .refl _ _⟩
  have hr0 : RelL (E.cut H.length) args vs := ⟨hr.1, fun i x hx => (hr.2 i x hx).cut (lbAs_mem hargs x (List.mem_of_getElem? hx))⟩
  refine (h.2.1 (E.cut H.length) w0 w vs (good_part hg hH) hr0).mono ?_
  rintro e w' ⟨E', re, ex, g⟩
  cases re with
  | ret x v hv =>
    obtain ⟨E2, ex2, g2, conv⟩ := merge_state (n0 := (H ++ J).length) (W := (· ∈ ([] : List Nat))) hg (ex.weaken (Nat.le_refl _) (fun l _ hl => by simp at hl)) g hH
    exact ⟨E2, .ret _ _ (conv _ _ hv hx), ex2, g2⟩
end Go.Proofs.YtiipaliigpkfhaaGreat.Ab

/- Part 24: an evaluator that goes both ways where a truth is not known: its answer is a tree. -/
set_option linter.unusedVariables false
set_option linter.unusedSimpArgs false
set_option maxRecDepth 100000
namespace Go.Proofs.YtiipaliigpkfhaaGreat.Ab
open Go Go.RowKit

inductive Tree (α : Type) where
  | leaf (a : α)
  | bad
  | br (b : Bool) (t f : Tree α)

namespace Tree
variable {α β : Type}
def sel : Tree α → Option α
  | .leaf a => some a
  | .bad => none
  | .br b t f => bif b then t.sel else f.sel
def bind : Tree α → (α → Tree β) → Tree β
  | .leaf a, k => k a
  | .bad, _ => .bad
  | .br b t f, k => .br b (t.bind k) (f.bind k)
/-- What it comes to, seen through a glass. -/
def via (g : α → β) : Tree α → Option β
  | .leaf a => some (g a)
  | .bad => none
  | .br b t f => bif b then t.via g else f.via g
def opt (e : Option α) (d : α) : Tree α := .br e.isSome (.leaf (e.getD d)) .bad

theorem sel_bind (t : Tree α) (k : α → Tree β) : (t.bind k).sel = t.sel.bind fun a => (k a).sel := by
  induction t with
  | leaf a => rfl
  | bad => rfl
  | br b t f h1 h2 => cases b <;> simp [bind, sel, h1, h2]
theorem via_eq (g : α → β) (t : Tree α) : t.via g = t.sel.map g := by
  induction t with
  | leaf a => rfl
  | bad => rfl
  | br b t f h1 h2 => cases b <;> simp [via, sel, h1, h2]
theorem opt_sel {e : Option α} {d r : α} (h : (opt e d).sel = some r) : e = some r := by
  cases e with
  | none => simp [opt, sel] at h
  | some x => simpa [opt, sel] using h
end Tree

abbrev StepR := AV × AHeap × Bool × Rd × List Nat

def wantedT (ops : Array Oper) (T : List AV) (o : Oper) : Tree Bool :=
  match o.guard with
  | none => .leaf true
  | some (j, want) => match yieldedA ops T j with
    | none => .bad
    | some none => .leaf false
    | some (some b) => .br b (.leaf want) (.leaf (!want))

theorem wantedT_sel {ops : Array Oper} {T : List AV} {o : Oper} : (wantedT ops T o).sel = wantedA ops T o := by
  unfold wantedT wantedA
  cases o.guard with
  | none => rfl
  | some g =>
    obtain ⟨j, want⟩ := g
    dsimp only
    cases yieldedA ops T j with
    | none => rfl
    | some y =>
      cases y with
      | none => rfl
      | some b => cases b <;> cases want <;> rfl

def sc1 (x : AV) (H : AHeap) : StepR := (x, H, true, rd0, [])

/-- A text's byte. -/
def byteAt (s : ByteArray) (n : Nat) : Int := match s[n]? with
  | some b => (b.toNat : Int)
  | none => 0

theorem index_eval {P : Program} {t : TypeId} {s : ByteArray} {k : IntKind} {i : Int} (hu : pureEval P (underlying t) = some .string) (h0 : 0 ≤ i) (h1 : i < s.size) : ixE P t (.string s) (.int k i) = some (.int .u8 (byteAt s i.toNat)) := by
  have hlt : i.toNat < s.size := by omega
  have hb : s[i.toNat]? = some s[i.toNat] := getElem?_pos s i.toNat hlt
  unfold ixE Instr.index byteAt
  rw [pureEval_bind (x := (k, i)) rfl]
  simp only
  rw [pureEval_bind hu]
  simp only [h0, if_true, hb]
  rfl

theorem addS_eval {P : Program} {t : TypeId} {p q : Operand} {a b : ByteArray} (h : a.size + b.size ≤ 4611686018427387904) : binE P .add t p q (.string a) (.string b) = some (.string (a ++ b)) := by
  unfold binE
  rw [pureEval_bind (x := ()) rfl]
  have h2 : ¬ ((a.size + b.size : Nat) : Int) > IntKind.max .i64 := by
    have : IntKind.max .i64 = 9223372036854775807 := rfl
    omega
  show pureEval P (Op.stringOp .add a b) = _
  simp only [Op.stringOp]
  rw [if_neg h2]
  rfl

/-- Operations that may hang on what is not known. -/
def specT (P : Program) (o : Oper) (T : List AV) (H : AHeap) : Option (Tree StepR) :=
  match o.op with
  | .binOp .add t p q _ => match opdA T p, opdA T q with
    | .sc (.string a), .sc (.string b) => some (.br (decide (a.size + b.size ≤ 4611686018427387904)) (.leaf (sc1 (.sc (.string (a ++ b))) H)) .bad)
    | _, _ => none
  | .index t p q => match pureEval P (underlying t), opdA T p, opdA T q with
    | some .string, .sc (.string s), .sc (.int _ i) => some (.br (decide (0 ≤ i ∧ i < (s.size : Int))) (.leaf (sc1 (.sc (.int .u8 (byteAt s i.toNat))) H)) .bad)
    | _, _, _ => none
  | .pick c a b => match opdA T c with
    | .sc (.bool t) => some (.br t (.leaf (sc1 (opdA T a) H)) (.leaf (sc1 (opdA T b) H)))
    | _ => none
  | .indexAddr t p q => match pureEval P (underlying t), opdA T p, opdA T q with
    | some (.slice e), .rsl _ sz n el _, .sc (.int _ i) => if pureEval P (Go.sizeOf e) = some sz then some (.br (decide (0 ≤ i ∧ i < n)) (.leaf (sc1 (.rptr (el i.toNat)) H)) .bad) else none
    | _, _, _ => none
  | .slice t p lo hi mx => match pureEval P (underlying t), opdA T p with
    | some (.slice e), .rsl nl sz n el _ =>
      match optInt T lo, optInt T hi, optInt T mx with
      | some l, some h, some none =>
        if pureEval P (Go.sizeOf e) = some sz then some (.br (decide (0 ≤ l.getD 0 ∧ l.getD 0 ≤ h.getD n ∧ h.getD n ≤ n)) (.leaf (sc1 (.rsl nl sz ((h.getD n).toNat - (l.getD 0).toNat) (fun i => el (i + (l.getD 0).toNat)) .non) H)) .bad) else none
      | some l, some (some h), some (some m) =>
        if pureEval P (Go.sizeOf e) = some sz then some (.br (decide (0 ≤ l.getD 0 ∧ l.getD 0 ≤ h ∧ h = m ∧ m ≤ n)) (.leaf (sc1 (.rsl nl sz (h.toNat - (l.getD 0).toNat) (fun i => el (i + (l.getD 0).toNat)) .tight) H)) .bad) else none
      | _, _, _ => none
    | some .string, .sc (.string s) =>
      match optInt T lo, optInt T hi, optInt T mx with
      | some l, some h, some none => some (.br (decide (0 ≤ l.getD 0 ∧ l.getD 0 ≤ h.getD s.size ∧ h.getD s.size ≤ s.size)) (.leaf (sc1 (.sc (.string (s.extract (l.getD 0).toNat (h.getD s.size).toNat))) H)) .bad)
      | _, _, _ => none
    | _, _ => none
  | _ => none

theorem specT_ok {P : Program} {o : Oper} {T : List AV} {H : AHeap} {t : Tree StepR} {r : StepR} (h : specT P o T H = some t) (hr : t.sel = some r) : ∃ x, stepS P o T H = some x ∧ r = sc1 x H ∧ rdOf o T = rd0 := by
  unfold specT at h
  split at h
  · rename_i t p q t2 ho
    split at h
    · rename_i a b hp hq
      cases h
      cases hd : decide (a.size + b.size ≤ 4611686018427387904) with
      | false => rw [hd] at hr; simp [Tree.sel] at hr
      | true =>
        rw [hd] at hr
        simp only [Tree.sel, cond_true, Option.some.injEq] at hr
        refine ⟨_, ?_, hr.symm, by unfold rdOf readL; rw [ho]; rfl⟩
        unfold stepS
        rw [ho]
        simp only [hp, hq, binS]
        rw [addS_eval (of_decide_eq_true hd)]
        rfl
    · cases h
  · rename_i t p q ho
    split at h
    · rename_i s k i hu hp hq
      cases h
      cases hd : decide (0 ≤ i ∧ i < (s.size : Int)) with
      | false => rw [hd] at hr; simp [Tree.sel] at hr
      | true =>
        rw [hd] at hr
        simp only [Tree.sel, cond_true, Option.some.injEq] at hr
        have := of_decide_eq_true hd
        refine ⟨_, ?_, hr.symm, by unfold rdOf readL; rw [ho]; rfl⟩
        unfold stepS
        rw [ho]
        simp only [hp, hq, indexS]
        rw [index_eval hu this.1 this.2]
        rfl
    · cases h
  · rename_i c a b ho
    split at h
    · rename_i tt hc
      cases h
      refine ⟨if tt then opdA T a else opdA T b, by unfold stepS; rw [ho]; simp only [hc], ?_, by unfold rdOf readL; rw [ho]; rfl⟩
      cases tt <;> simp [Tree.sel] at hr <;> exact hr.symm
    · cases h
  · rename_i t p q ho
    split at h
    · rename_i e nl sz n el own k i hu hp hq
      split at h
      · rename_i hs
        cases h
        cases hd : decide (0 ≤ i ∧ i < (n : Int)) with
        | false => rw [hd] at hr; simp [Tree.sel] at hr
        | true =>
          rw [hd] at hr
          simp only [Tree.sel, cond_true, Option.some.injEq] at hr
          have := of_decide_eq_true hd
          refine ⟨_, ?_, hr.symm, by unfold rdOf readL; rw [ho]; rfl⟩
          unfold stepS
          rw [ho]
          simp only [hu, hp, hq]
          rw [if_pos ⟨hs, this.1, this.2⟩]
      · cases h
    · cases h
  · rename_i t p lo hi mx ho
    split at h
    · rename_i e nl sz n el own hu hp
      split at h
      · rename_i l h' hl hh hm
        split at h
        · rename_i hs
          cases h
          cases hd : decide (0 ≤ l.getD 0 ∧ l.getD 0 ≤ h'.getD n ∧ h'.getD n ≤ n) with
          | false => rw [hd] at hr; simp [Tree.sel] at hr
          | true =>
            rw [hd] at hr
            simp only [Tree.sel, cond_true, Option.some.injEq] at hr
            have := of_decide_eq_true hd
            refine ⟨_, ?_, hr.symm, by unfold rdOf readL; rw [ho]; rfl⟩
            unfold stepS
            rw [ho]
            simp only [hu, hp, hl, hh, hm]
            rw [if_pos ⟨hs, this⟩]
        · cases h
      · rename_i l h' m hl hh hm
        split at h
        · rename_i hs
          cases h
          cases hd : decide (0 ≤ l.getD 0 ∧ l.getD 0 ≤ h' ∧ h' = m ∧ m ≤ (n : Int)) with
          | false => rw [hd] at hr; simp [Tree.sel] at hr
          | true =>
            rw [hd] at hr
            simp only [Tree.sel, cond_true, Option.some.injEq] at hr
            have := of_decide_eq_true hd
            refine ⟨_, ?_, hr.symm, by unfold rdOf readL; rw [ho]; rfl⟩
            unfold stepS
            rw [ho]
            simp only [hu, hp, hl, hh, hm]
            rw [if_pos ⟨hs, this⟩]
        · cases h
      · cases h
    · rename_i s hu hp
      split at h
      · rename_i l h' hl hh hm
        cases h
        cases hd : decide (0 ≤ l.getD 0 ∧ l.getD 0 ≤ h'.getD s.size ∧ h'.getD s.size ≤ (s.size : Int)) with
        | false => rw [hd] at hr; simp [Tree.sel] at hr
        | true =>
          rw [hd] at hr
          simp only [Tree.sel, cond_true, Option.some.injEq] at hr
          have := of_decide_eq_true hd
          refine ⟨_, ?_, hr.symm, by unfold rdOf readL; rw [ho]; rfl⟩
          unfold stepS
          rw [ho]
          simp only [hu, hp, hl, hh, hm]
          rw [if_pos this]
      · cases h
    · cases h
  · cases h

/-- Appending what may be empty; strings as bytes, bytes as strings. -/
def specX (P : Program) (o : Oper) (T : List AV) (H : AHeap) : Option (Tree (AV × AHeap × List Nat)) :=
  match o.op with
  | .convert src dst p => match pureEval P (underlying src), pureEval P (underlying dst), opdA T p with
    | some .string, some (.slice e), .sc (.string s) => if isU8 P e = true then some (.br (decide (s.size < 2 ^ 62)) (.leaf (.rsl false 1 s.size (strEl s) .non, H, [])) .bad) else none
    | some (.slice e), some .string, .rsl nl sz n el own => if isU8 P e = true ∧ sz = 1 then some ((Tree.opt (bytesL n el) []).bind fun ns => .leaf (.sc (.string (strB ns)), H, [])) else none
    | _, _, _ => none
  | .call c => match c.callee with
    | .builtin .append => match c.args.toList, appT P c with
      | [p, q], some (sz, bytes) =>
        match opdA T p, srcA sz (opdA T q) with
        | .rsl nl sz' n el own, some (m, el2) =>
          some (.br (decide (m = 0)) (.leaf (.rsl nl sz' n el own, H, []))
            (.br (decide ((n + m) * bytes ≤ 2 ^ 46 ∧ n + m < 2 ^ 62))
              (match own with
              | .tok t => match H[t]? with
                | some (.tail n' sz2) => if sz2 = sz ∧ sz' = sz then .br (decide (n' = n)) (.leaf (.rsl false sz (n + m) (catEl n el el2) (.tok t), H.set t (.tail (n + m) sz), [t])) .bad else .bad
                | _ => .bad
              | .tight => if sz' = sz then .leaf (.rsl false sz (n + m) (catEl n el el2) (.tok H.length), H ++ [.tail (n + m) sz], []) else .br (decide (n = 0)) (.leaf (.rsl false sz (n + m) (catEl n el el2) (.tok H.length), H ++ [.tail (n + m) sz], [])) .bad
              | .non => .br nl (if sz' = sz then .leaf (.rsl false sz (n + m) (catEl n el el2) (.tok H.length), H ++ [.tail (n + m) sz], []) else .br (decide (n = 0)) (.leaf (.rsl false sz (n + m) (catEl n el el2) (.tok H.length), H ++ [.tail (n + m) sz], [])) .bad) .bad)
              .bad))
        | _, _ => none
      | _, _ => none
    | _ => none
  | _ => none

theorem Tree.sel_br {α : Type} {b : Bool} {t f : Tree α} {r : α} (h : (Tree.br b t f).sel = some r) : (b = true ∧ t.sel = some r) ∨ (b = false ∧ f.sel = some r) := by
  cases b with
  | true => exact .inl ⟨rfl, h⟩
  | false => exact .inr ⟨rfl, h⟩
theorem Tree.sel_leaf {α : Type} {a r : α} (h : (Tree.leaf a).sel = some r) : r = a := by
  simp only [Tree.sel, Option.some.injEq] at h; exact h.symm
theorem Tree.sel_bad {α : Type} {r : α} (h : (Tree.bad : Tree α).sel = some r) : False := by
  simp [Tree.sel] at h

theorem specX_ok {P : Program} {o : Oper} {T : List AV} {H : AHeap} {t : Tree (AV × AHeap × List Nat)} {r : AV × AHeap × List Nat} (h : specX P o T H = some t) (hr : t.sel = some r) : OpA P o T H r.1 r.2.1 r.2.2 ∧ Keeps H r.2.1 r.2.2 := by
  have viaX : stepX P o T H = some r → OpA P o T H r.1 r.2.1 r.2.2 ∧ Keeps H r.2.1 r.2.2 := fun h => ⟨stepX_sound h, stepX_keeps h⟩
  have viaM : stepM P o T H = some r → OpA P o T H r.1 r.2.1 r.2.2 ∧ Keeps H r.2.1 r.2.2 := fun h => stepM_sound h
  unfold specX at h
  split at h
  · rename_i src dst p ho
    split at h
    · rename_i e s hu1 hu2 hp
      split at h
      · rename_i h8
        cases h
        rcases Tree.sel_br hr with ⟨hd, hr⟩ | ⟨_, hr⟩
        · obtain rfl := Tree.sel_leaf hr
          refine viaX ?_
          unfold stepX
          rw [ho]
          simp only [hu1, hu2, hp]
          rw [if_pos ⟨h8, of_decide_eq_true hd⟩]
        · exact (Tree.sel_bad hr).elim
      · cases h
    · rename_i e nl sz n el own hu1 hu2 hp
      split at h
      · rename_i h8
        cases h
        rw [Tree.sel_bind] at hr
        cases hb : (Tree.opt (bytesL n el) []).sel with
        | none => rw [hb] at hr; cases hr
        | some ns =>
          rw [hb] at hr
          simp only [Option.bind_some] at hr
          obtain rfl := Tree.sel_leaf hr
          refine viaM ?_
          unfold stepM
          rw [ho]
          simp only [hu1, hu2, hp]
          rw [if_pos ⟨h8.1, .inl h8.2⟩, Tree.opt_sel hb]
      · cases h
    · cases h
  · rename_i c ho
    split at h
    · rename_i hcal
      split at h
      · rename_i p q sz bytes hargs hT
        split at h
        · rename_i nl sz' n el own m el2 hp hq
          cases h
          have hX : ∀ r, appX P c T H = some r → stepX P o T H = some r := fun r h => by
            unfold stepX
            rw [ho]
            simp only [hcal]
            exact h
          refine viaX (hX _ ?_)
          unfold appX
          simp only [hargs, hT, hp, hq]
          rcases Tree.sel_br hr with ⟨hd, hr⟩ | ⟨hd, hr⟩
          · rw [if_pos (of_decide_eq_true hd), Tree.sel_leaf hr]
          · rw [if_neg (of_decide_eq_false hd)]
            rcases Tree.sel_br hr with ⟨hd2, hr⟩ | ⟨hd2, hr⟩
            · rw [if_pos (of_decide_eq_true hd2)]
              split at hr
              · rename_i t
                split at hr
                · rename_i n' sz2 hH
                  split at hr
                  · rename_i hs
                    rcases Tree.sel_br hr with ⟨hd3, hr⟩ | ⟨hd3, hr⟩
                    · simp only [hH]
                      rw [if_pos ⟨of_decide_eq_true hd3, hs⟩, Tree.sel_leaf hr]
                    · exact (Tree.sel_bad hr).elim
                  · exact (Tree.sel_bad hr).elim
                · exact (Tree.sel_bad hr).elim
              · split at hr
                · rename_i hs
                  simp only
                  rw [if_pos (.inr hs), Tree.sel_leaf hr]
                · rcases Tree.sel_br hr with ⟨hd3, hr⟩ | ⟨hd3, hr⟩
                  · simp only
                    rw [if_pos (.inl (of_decide_eq_true hd3)), Tree.sel_leaf hr]
                  · exact (Tree.sel_bad hr).elim
              · rcases Tree.sel_br hr with ⟨hnl, hr⟩ | ⟨_, hr⟩
                · split at hr
                  · rename_i hs
                    simp only
                    rw [if_pos ⟨hnl, .inr hs⟩, Tree.sel_leaf hr]
                  · rcases Tree.sel_br hr with ⟨hd3, hr⟩ | ⟨hd3, hr⟩
                    · simp only
                      rw [if_pos ⟨hnl, .inl (of_decide_eq_true hd3)⟩, Tree.sel_leaf hr]
                    · exact (Tree.sel_bad hr).elim
                · exact (Tree.sel_bad hr).elim
            · exact (Tree.sel_bad hr).elim
        · cases h
      · cases h
    · cases h
  · cases h

/-- A look-up where there is one entry: is it that one? -/
def specL (P : Program) (nx : Option Nat) (o : Oper) (T : List AV) (H : AHeap) : Option (Tree (AV × AHeap × List Nat)) :=
  match nx with
  | some _ => none
  | none => match o.op with
    | .lookup t p q ok => match opdA T p, keyV (opdA T q) with
      | .mapr l, some k => match H[l]?, mapT P t k with
        | some (.map [e]), some (kt, d, z) => some (.br (decide (findKeyA P kt d k [e] = some (some 0))) (.leaf (if ok then .tup [e.2, .sc (.bool true)] else e.2, H, []))
          (.br (decide (findKeyA P kt d k [e] = some none)) (.leaf (if ok then .tup [constA z, .sc (.bool false)] else constA z, H, [])) .bad))
        | _, _ => none
      | _, _ => none
    | _ => none

theorem specL_ok {P : Program} {nx : Option Nat} {o : Oper} {T : List AV} {H : AHeap} {t : Tree (AV × AHeap × List Nat)} {r : AV × AHeap × List Nat} (h : specL P nx o T H = some t) (hr : t.sel = some r) : OpA P o T H r.1 r.2.1 r.2.2 ∧ Keeps H r.2.1 r.2.2 := by
  unfold specL at h
  split at h
  · cases h
  · split at h
    · rename_i t p q ok ho
      split at h
      · rename_i l k hp hk
        split at h
        · rename_i e kt d z hl hT
          obtain ⟨et, hT⟩ := mapT_ok hT
          cases h
          rcases Tree.sel_br hr with ⟨hd, hr⟩ | ⟨_, hr⟩
          · rw [Tree.sel_leaf hr]
            exact ⟨(opA_lookup ho hT hp hl hk (of_decide_eq_true hd) (x := e.2) rfl).a, .refl _ _⟩
          · rcases Tree.sel_br hr with ⟨hd, hr⟩ | ⟨_, hr⟩
            · rw [Tree.sel_leaf hr]
              exact ⟨(opA_lookup ho hT hp hl hk (of_decide_eq_true hd) (x := constA z) rfl).a, .refl _ _⟩
            · exact (Tree.sel_bad hr).elim
        · cases h
      · cases h
    · cases h

abbrev CallT := FuncId → List AV → AHeap → Tree (AV × AHeap × List Nat)
abbrev SiteO := Nat → FuncId → List AV → AHeap → Option (Tree (AV × AHeap × List Nat))

def act1 (r : AV × AHeap × List Nat) : Tree StepR := .leaf (r.1, r.2.1, false, rd0, r.2.2)

def stepT (P : Program) (call : CallT) (si : SiteO) (nx : Option Nat) (o : Oper) (T : List AV) (H : AHeap) : Tree StepR :=
  match specL P nx o T H with
  | some t => t.bind act1
  | none => match quietF P o T H nx with
  | some q => .leaf (q.1, H, true, q.2, [])
  | none => match specT P o T H with
    | some t => t
    | none => match specX P o T H with
      | some t => t.bind act1
      | none => match step1 P o T H with
        | some r => .leaf r
        | none => match stepM P o T H with
          | some r => .leaf (r.1, r.2.1, false, rdS (softOf o T), r.2.2)
          | none => match calleeA o T with
            | some (g, args) => match si (o.dst.getD 0) g args H with
              | some t => t.bind act1
              | none => (call g args H).bind act1
            | none => .bad

def StepOk (P : Program) (nx : Option Nat) (o : Oper) (T : List AV) (H : AHeap) (r : StepR) : Prop :=
  (∃ x rd, r = (x, H, true, rd, []) ∧ (∀ H2 : AHeap, (∀ l ∈ rd.labs, H2[l]? = H[l]? ∨ ∃ t k ob, rd.soft = some (l, t, k) ∧ (H[l]?).bind (entryObj P t k) = some ob ∧ H2[l]? = some ob) → OpF P o T H2 x rd.al) ∧ (nx.isSome = false → rd.al = none)) ∨
  (∃ x H1 Wr sf, r = (x, H1, false, rdS sf, Wr) ∧ OpA P o T H x H1 Wr ∧ Keeps H H1 Wr ∧ ∀ l t k, sf = some (l, t, k) → ∃ ob, (H[l]?).bind (entryObj P t k) = some ob ∧ H1[l]? = some ob)

def SiteOk (P : Program) (si : SiteO) : Prop := ∀ (d : Nat) (g : FuncId) (args : List AV) (H : AHeap) (t : Tree (AV × AHeap × List Nat)) (r : AV × AHeap × List Nat), si d g args H = some t → t.sel = some r → Ctr P g args r.1 H r.2.1 r.2.2
def CallTOk (P : Program) (call : CallT) : Prop := ∀ (g : FuncId) (args : List AV) (H : AHeap) (r : AV × AHeap × List Nat), (call g args H).sel = some r → Ctr P g args r.1 H r.2.1 r.2.2

theorem act1_ok {P : Program} {o : Oper} {T : List AV} {H : AHeap} {q : AV × AHeap × List Nat} {r : StepR} (h : OpA P o T H q.1 q.2.1 q.2.2 ∧ Keeps H q.2.1 q.2.2) {nx : Option Nat} (hr : (act1 q).sel = some r) : StepOk P nx o T H r := by
  rw [Tree.sel_leaf hr]
  exact .inr ⟨_, _, _, none, rfl, h.1, h.2, fun l t k e => by cases e⟩

theorem bind_act1 {t : Tree (AV × AHeap × List Nat)} {r : StepR} (hr : (t.bind act1).sel = some r) : ∃ q, t.sel = some q ∧ (act1 q).sel = some r := by
  rw [Tree.sel_bind] at hr
  cases hq : t.sel with
  | none => rw [hq] at hr; cases hr
  | some q => rw [hq] at hr; exact ⟨q, rfl, hr⟩

theorem stepT_ok {P : Program} {call : CallT} {si : SiteO} (hc : CallTOk P call) (hs : SiteOk P si) {nx : Option Nat} {o : Oper} {T : List AV} {H : AHeap} {r : StepR} (h : (stepT P call si nx o T H).sel = some r) : StepOk P nx o T H r := by
  unfold stepT at h
  split at h
  · rename_i t ht
    obtain ⟨q, hq, hr⟩ := bind_act1 h
    exact act1_ok (specL_ok ht hq) hr
  split at h
  · rename_i q hq
    rw [Tree.sel_leaf h]
    obtain ⟨hf, hn⟩ := quietF_ok (x := q.1) (rd := q.2) hq
    exact .inl ⟨_, _, rfl, hf, fun e => by rw [hn] at e; cases e⟩
  · split at h
    · rename_i t ht
      obtain ⟨x, hx, rfl, hl⟩ := specT_ok ht h
      exact .inl ⟨x, rd0, rfl, hl ▸ stepS_float hx, fun _ => rfl⟩
    · split at h
      · rename_i t ht
        obtain ⟨q, hq, hr⟩ := bind_act1 h
        exact act1_ok (specX_ok ht hq) hr
      · split at h
        · rename_i q hq
          rw [Tree.sel_leaf h]
          unfold step1 at hq
          split at hq
          · rename_i y hy; cases hq; exact .inl ⟨y, _, rfl, stepS_float hy, fun _ => rfl⟩
          · split at hq
            · rename_i y H3 Wr hx; cases hq; exact .inr ⟨_, _, _, none, rfl, stepX_sound hx, stepX_keeps hx, fun l t k e => by cases e⟩
            · cases hq
        · split at h
          · rename_i q hq; rw [Tree.sel_leaf h]; exact .inr ⟨_, _, _, _, rfl, (stepM_sound hq).1, (stepM_sound hq).2, stepM_soft hq⟩
          · split at h
            · rename_i g args hg
              split at h
              · rename_i t ht
                obtain ⟨q, hq, hr⟩ := bind_act1 h
                have hctr := hs _ _ _ _ _ _ ht hq
                exact act1_ok ⟨opA_callee hg hctr, hctr.2.2⟩ hr
              · obtain ⟨q, hq, hr⟩ := bind_act1 h
                have hctr := hc _ _ _ _ hq
                exact act1_ok ⟨opA_callee hg hctr, hctr.2.2⟩ hr
            · exact (Tree.sel_bad h).elim

/-- Once a truth is asked it is known. -/
def litT (T : List AV) (t : Nat) (v : Bool) : List AV := T.set t (.sc (.bool v))

theorem litT_eq {T : List AV} {t : Nat} {b : Bool} (h : T[t]? = some (.sc (.bool b))) : litT T t b = T := by
  unfold litT
  refine List.ext_getElem? (fun i => ?_)
  by_cases hi : t = i
  · subst hi
    rw [List.getElem?_set_self (List.getElem?_eq_some_iff.1 h).1, h]
  · rw [List.getElem?_set_ne hi]

/-- The truth that a guard asks. -/
def askG (ops : Array Oper) (T : List AV) (o : Oper) : Option (Bool × Nat) :=
  match o.guard with
  | none => none
  | some (j, _) => match (ops[j]?).bind (·.dst) with
    | none => none
    | some d => match T[d]? with
      | some (.sc (.bool b)) => some (b, d)
      | _ => none

theorem askG_get {ops : Array Oper} {T : List AV} {o : Oper} {b : Bool} {d : Nat} (h : askG ops T o = some (b, d)) : T[d]? = some (.sc (.bool b)) := by
  unfold askG at h
  split at h
  · cases h
  · split at h
    · cases h
    · split at h
      · rename_i hd; cases h; exact hd
      · cases h

/-- Both ways, each knowing which. -/
def askB {α : Type} (q : Option (Bool × Nat)) (T : List AV) (k : List AV → Tree α) : Tree α :=
  match q with
  | some (b, d) => .br b (k (litT T d true)) (k (litT T d false))
  | none => k T

theorem askB_sel {α : Type} {q : Option (Bool × Nat)} {T : List AV} {k : List AV → Tree α} {r : α} (hq : ∀ b d, q = some (b, d) → T[d]? = some (.sc (.bool b))) (h : (askB q T k).sel = some r) : (k T).sel = some r := by
  unfold askB at h
  split at h
  · rename_i b d
    have := litT_eq (hq b d rfl)
    rcases Tree.sel_br h with ⟨rfl, h⟩ | ⟨rfl, h⟩
    · rwa [this] at h
    · rwa [this] at h
  · exact h

def askC (T : List AV) (c : Operand) : Option (Bool × Nat) :=
  match c with
  | .tmp t => match T[t]? with
    | some (.sc (.bool b)) => some (b, t)
    | _ => none
  | _ => none

theorem askC_get {T : List AV} {c : Operand} {b : Bool} {d : Nat} (h : askC T c = some (b, d)) : T[d]? = some (.sc (.bool b)) := by
  unfold askC at h
  split at h
  · split at h
    · rename_i hd; cases h; exact hd
    · cases h
  · cases h

def evRT (P : Program) (call : CallT) (si : SiteO) (ops : Array Oper) : List Oper → Option Nat → List AV → AHeap → Tree (List AV × AHeap × Log)
  | [], _, T, H => .leaf (T, H, [])
  | o :: r, nx, T, H => askB (askG ops T o) T fun T => (wantedT ops T o).bind fun
    | false => (evRT P call si ops r (nextL o nx) (putA T o.dst skipA) H).bind fun q => .leaf (q.1, q.2.1, e0 :: q.2.2)
    | true => (stepT P call si nx o T H).bind fun e => (evRT P call si ops r (nextL o nx) (putA T o.dst e.1) e.2.1).bind fun q => .leaf (q.1, q.2.1, e.2.2 :: q.2.2)

theorem sel_bind_some {α β : Type} {t : Tree α} {k : α → Tree β} {r : β} (h : (t.bind k).sel = some r) : ∃ a, t.sel = some a ∧ (k a).sel = some r := by
  rw [Tree.sel_bind] at h
  cases ha : t.sel with
  | none => rw [ha] at h; cases h
  | some a => rw [ha] at h; exact ⟨a, rfl, h⟩

theorem evRT_chain {P : Program} {call : CallT} {si : SiteO} (hc : CallTOk P call) (hsi : SiteOk P si) {ops : Array Oper} : ∀ (r : List Oper) (k : Nat) (nx : Option Nat) (T : List AV) (H : AHeap) (T' : List AV) (H' : AHeap) (L : Log), (∀ (j : Nat) (o : Oper), r[j]? = some o → ops[k + j]? = some o) → (evRT P call si ops r nx T H).sel = some (T', H', L) →
    Chain P ops nx.isSome (entryObj P) ((List.range r.length).map (k + ·)) T H T' H' L ∧ Keeps H H' (wrs L)
  | [], k, nx, T, H, T', H', L, _, h => by
    have := Tree.sel_leaf h
    simp only [Prod.mk.injEq] at this
    obtain ⟨rfl, rfl, rfl⟩ := this
    exact ⟨.nil _ _, .refl _ _⟩
  | o :: r, k, nx, T, H, T', H', L, ho, h => by
    have ho0 : ops[k]? = some o := ho 0 o rfl
    have hor : ∀ (j : Nat) (q : Oper), r[j]? = some q → ops[k + 1 + j]? = some q := fun j q hq => by
      have := ho (j + 1) q (by simpa using hq)
      rw [show k + 1 + j = k + (j + 1) by omega]; exact this
    have hr : (List.range (o :: r).length).map (k + ·) = k :: (List.range r.length).map (k + 1 + ·) := by
      rw [List.length_cons, List.range_succ_eq_map]
      simp only [List.map_cons, List.map_map, Nat.add_zero]
      congr 1
      refine List.map_congr_left (fun a _ => ?_)
      simp only [Function.comp]
      omega
    rw [hr]
    unfold evRT at h
    have h := askB_sel (fun b d => askG_get) h
    obtain ⟨w, hw, h⟩ := sel_bind_some h
    rw [wantedT_sel] at hw
    cases w with
    | false =>
      obtain ⟨⟨T2, H2, L2⟩, hq, h⟩ := sel_bind_some h
      have := Tree.sel_leaf h
      simp only [Prod.mk.injEq] at this
      obtain ⟨rfl, rfl, rfl⟩ := this
      obtain ⟨h1, h2⟩ := evRT_chain hc hsi r (k + 1) _ _ _ _ _ _ hor hq
      rw [nextL_some] at h1
      exact ⟨.skip ho0 hw h1, by simpa [wrs, e0] using h2⟩
    | true =>
      obtain ⟨e, he, h⟩ := sel_bind_some h
      obtain ⟨⟨T2, H2, L2⟩, hq, h⟩ := sel_bind_some h
      have := Tree.sel_leaf h
      simp only [Prod.mk.injEq] at this
      obtain ⟨rfl, rfl, rfl⟩ := this
      obtain ⟨h1, h2⟩ := evRT_chain hc hsi r (k + 1) _ _ _ _ _ _ hor hq
      rw [nextL_some] at h1
      rcases stepT_ok hc hsi he with ⟨x, rd, rfl, hf, hn⟩ | ⟨x, H1, Wr, sf, rfl, hop, hk, hsf⟩
      · exact ⟨.float ho0 hw hf hn h1, by simpa [wrs] using h2⟩
      · exact ⟨.act ho0 hw hop hk hsf h1, hk.trans h2⟩

/-- What is told: of loops; of the calls whose answers go to a place. -/
structure LoopO where
  loop : Code → List AV → AHeap → Option (Tree OutE)
  site : SiteO
  reg : Nat → Array Oper → List AV → AHeap → Option (Tree OutE)

def fstReg : Code → Option Nat
  | .region id _ _ => some id
  | .seq a b => match fstReg a with
    | some i => some i
    | none => fstReg b
  | .block _ c => fstReg c
  | .cond _ a b => match fstReg a with
    | some i => some i
    | none => fstReg b
  | .loop c => fstReg c
  | _ => none

def iterT (f : List AV → AHeap → Tree OutE) : Nat → List AV → AHeap → Tree OutE
  | 0, _, _ => .bad
  | k + 1, T, H => (f T H).bind fun r => match r.1 with
    | .normal => (iterT f k r.2.1 r.2.2.1).bind fun q => .leaf (q.1, q.2.1, q.2.2.1, r.2.2.2 ++ q.2.2.2)
    | _ => .leaf r

def evCTb (P : Program) (call : CallT) (lo : LoopO) (sco : Code → List AV → AHeap → Tree OutE) (n : Nat) : Code → List AV → AHeap → Tree OutE
  | .skip, T, H => .leaf (.normal, T, H, [])
  | .label _, T, H => .leaf (.normal, T, H, [])
  | .exit i, T, H => .leaf (.exit i, T, H, [])
  | .goto i, T, H => .leaf (.goto i, T, H, [])
  | .ret, T, H => .leaf (.ret, T, H, [])
  | .seq a b, T, H => (evCTb P call lo sco n a T H).bind fun r => match r.1 with
    | .normal => (evCTb P call lo sco n b r.2.1 r.2.2.1).bind fun q => .leaf (q.1, q.2.1, q.2.2.1, r.2.2.2 ++ q.2.2.2)
    | _ => .leaf r
  | .block i c, T, H => (evCTb P call lo sco n c T H).bind fun r => match r.1 with
    | .exit j => if j = i then .leaf (.normal, r.2) else .leaf r
    | _ => .leaf r
  | .cond c a b, T, H => askB (askC T c) T fun T => match opdA T c with
    | .sc (.bool t) => .br t (evCTb P call lo sco n a T H) (evCTb P call lo sco n b T H)
    | _ => .bad
  | .region id ops false, T, H => match lo.reg id ops T H with
    | some t => t
    | none => (evRT P call lo.site ops ops.toList none T H).bind fun q => .leaf (.normal, q.1, q.2.1, wrs q.2.2)
  | .region id ops true, T, H => (evRT P call lo.site ops ops.toList (some H.length) T (H ++ resv P ops.toList)).bind fun q => if drawOk ops H.length (H ++ resv P ops.toList).length q.2.2 = true then .leaf (.normal, q.1, q.2.1, wrs q.2.2) else .bad
  | .loop c, T, H => match lo.loop c T H with
    | some t => t
    | none => iterT (evCTb P call lo sco n c) n T H
  | .rangeFunc _ _ _ _, _, _ => .bad
  | .scope c, T, H => sco c T H
  | .refuse _, _, _ => .bad

/-- From label to label. -/
def passT (f : Code → List AV → AHeap → Tree OutE) (c : Code) : Nat → Code → List AV → AHeap → Tree OutE
  | 0, _, _, _ => .bad
  | k + 1, d, T, H => (f d T H).bind fun r => match r.1 with
    | .goto l => match findLabel c l with
      | some rest => (passT f c k rest r.2.1 r.2.2.1).bind fun q => .leaf (q.1, q.2.1, q.2.2.1, r.2.2.2 ++ q.2.2.2)
      | none => .bad
    | _ => .leaf r

def evCT (P : Program) (call : CallT) (lo : LoopO) : Nat → Code → List AV → AHeap → Tree OutE
  | 0 => evCTb P call lo (fun _ _ _ => .bad) 0
  | n + 1 => evCTb P call lo (fun c T H => passT (evCT P call lo n) c n c T H) (n + 1)

/-- What is told of loops beforehand. -/
structure LoopsOk (P : Program) (lo : LoopO) : Prop where
  loop : ∀ c T H t x T' H' Wr, lo.loop c T H = some t → t.sel = some (x, T', H', Wr) → CodeOk P (.loop c) T H x T' H' Wr
  site : SiteOk P lo.site
  reg : ∀ id ops T H t x T' H' Wr, lo.reg id ops T H = some t → t.sel = some (x, T', H', Wr) → CodeOk P (.region id ops false) T H x T' H' Wr

def noLoop : LoopO := ⟨fun _ _ _ => none, fun _ _ _ _ => none, fun _ _ _ _ => none⟩
theorem noSite_ok {P : Program} : SiteOk P (fun _ _ _ _ => none) := fun _ _ _ _ _ _ h => by cases h
theorem noLoop_ok {P : Program} : LoopsOk P noLoop := ⟨fun _ _ _ _ _ _ _ _ h => (by cases h), noSite_ok, fun _ _ _ _ _ _ _ _ _ h => (by cases h)⟩

theorem iterT_ok {P : Program} {c : Code} {f : List AV → AHeap → Tree OutE} (hf : ∀ T H x T' H' Wr, (f T H).sel = some (x, T', H', Wr) → CodeOk P c T H x T' H' Wr) (k : Nat) (T : List AV) (H : AHeap) (x : AExit) (T' : List AV) (H' : AHeap) (Wr : List Nat) (h : (iterT f k T H).sel = some (x, T', H', Wr)) : CodeOk P (.loop c) T H x T' H' Wr := by
  let g : List AV → AHeap → Ev OutE := fun T H => match (f T H).sel with
    | some r => .ok r
    | none => .bad []
  have hg : ∀ T H x T' H' Wr, g T H = .ok (x, T', H', Wr) → CodeOk P c T H x T' H' Wr := by
    intro T H x T' H' Wr h
    simp only [g] at h
    split at h
    · rename_i r hr; cases h; exact hf _ _ _ _ _ _ hr
    · cases h
  refine iterE_ok hg k T H x T' H' Wr ?_
  have key : ∀ (k : Nat) (T : List AV) (H : AHeap) (r : OutE), (iterT f k T H).sel = some r → iterE g k T H = .ok r := by
    intro k
    induction k with
    | zero => intro T H r h; exact (Tree.sel_bad h).elim
    | succ k ih =>
      intro T H r h
      unfold iterT at h
      obtain ⟨⟨y, T1, H1, W1⟩, h1, h⟩ := sel_bind_some h
      have hg1 : g T H = .ok (y, T1, H1, W1) := by simp only [g, h1]
      unfold iterE
      rw [hg1]
      cases y with
      | normal =>
        obtain ⟨⟨z, T2, H2, W2⟩, h2, h⟩ := sel_bind_some h
        rw [Tree.sel_leaf h]
        simp only [ih _ _ _ h2]
      | _ => rw [Tree.sel_leaf h]
  exact key k T H _ h

theorem evCTb_ok {P : Program} {call : CallT} {lo : LoopO} (hm : P.follows .mixedOrders = true) (hc : CallTOk P call) (hl : LoopsOk P lo) {sco : Code → List AV → AHeap → Tree OutE} (hs : ∀ c T H x T' H' Wr, (sco c T H).sel = some (x, T', H', Wr) → CodeOk P (.scope c) T H x T' H' Wr) (n : Nat) : ∀ (c : Code) (T : List AV) (H : AHeap) (x : AExit) (T' : List AV) (H' : AHeap) (Wr : List Nat), (evCTb P call lo sco n c T H).sel = some (x, T', H', Wr) → CodeOk P c T H x T' H' Wr
  | .skip, T, H, x, T', H', Wr, h => by cases Tree.sel_leaf h; exact ⟨fun _ _ _ _ => wpA_skip ⟨rfl, rfl, rfl⟩, .refl _ _⟩
  | .label _, T, H, x, T', H', Wr, h => by cases Tree.sel_leaf h; exact ⟨fun _ _ _ _ => wpA_label ⟨rfl, rfl, rfl⟩, .refl _ _⟩
  | .exit _, T, H, x, T', H', Wr, h => by cases Tree.sel_leaf h; exact ⟨fun _ _ _ _ => wpA_exit ⟨rfl, rfl, rfl⟩, .refl _ _⟩
  | .goto _, T, H, x, T', H', Wr, h => by cases Tree.sel_leaf h; exact ⟨fun _ _ _ _ => wpA_goto ⟨rfl, rfl, rfl⟩, .refl _ _⟩
  | .ret, T, H, x, T', H', Wr, h => by cases Tree.sel_leaf h; exact ⟨fun _ _ _ _ => wpA_ret ⟨rfl, rfl, rfl⟩, .refl _ _⟩
  | .seq a b, T, H, x, T', H', Wr, h => by
    unfold evCTb at h
    obtain ⟨⟨y, T1, H1, W1⟩, h1, h⟩ := sel_bind_some h
    have ok1 := evCTb_ok hm hc hl hs n a _ _ _ _ _ _ h1
    have other : y ≠ .normal → (x, T', H', Wr) = (y, T1, H1, W1) → CodeOk P (.seq a b) T H x T' H' Wr := by
      intro hne e
      cases e
      refine ⟨fun n0 W hn hw => wpA_seq (ok1.then hn hw ?_), ok1.2⟩
      cases x with
      | normal => exact absurd rfl hne
      | exit i => exact ⟨rfl, rfl, rfl⟩
      | goto i => exact ⟨rfl, rfl, rfl⟩
      | ret => exact ⟨rfl, rfl, rfl⟩
      | panic y => exact ⟨rfl, rfl, rfl⟩
    cases y with
    | normal =>
      obtain ⟨⟨z, T2, H2, W2⟩, h2, h⟩ := sel_bind_some h
      cases Tree.sel_leaf h
      have ok2 := evCTb_ok hm hc hl hs n b _ _ _ _ _ _ h2
      exact ⟨fun n0 W hn hw => wpA_seq (ok1.then hn (fun l hl => hw l (List.mem_append_left _ hl)) (ok2.1 n0 W (Nat.le_trans hn ok1.2.1) (fun l hl => hw l (List.mem_append_right _ hl)))), ok1.2.trans ok2.2⟩
    | exit i => exact other (by simp) (Tree.sel_leaf h)
    | goto i => exact other (by simp) (Tree.sel_leaf h)
    | ret => exact other (by simp) (Tree.sel_leaf h)
    | panic v => exact other (by simp) (Tree.sel_leaf h)
  | .block i c, T, H, x, T', H', Wr, h => by
    unfold evCTb at h
    obtain ⟨⟨y, T1, H1, W1⟩, h1, h⟩ := sel_bind_some h
    have ok1 := evCTb_ok hm hc hl hs n c _ _ _ _ _ _ h1
    have other : (∀ j, y ≠ .exit j) → (x, T', H', Wr) = (y, T1, H1, W1) → CodeOk P (.block i c) T H x T' H' Wr := by
      intro hne e
      cases e
      refine ⟨fun n0 W hn hw => wpA_block (ok1.then hn hw ?_), ok1.2⟩
      cases x with
      | normal => exact ⟨rfl, rfl, rfl⟩
      | exit i => exact absurd rfl (hne _)
      | goto i => exact ⟨rfl, rfl, rfl⟩
      | ret => exact ⟨rfl, rfl, rfl⟩
      | panic y => exact ⟨rfl, rfl, rfl⟩
    cases y with
    | exit j =>
      simp only at h
      split at h
      · rename_i hj
        cases Tree.sel_leaf h
        exact ⟨fun n0 W hn hw => wpA_block (ok1.then hn hw (by simp [AExit.inBlock, hj])), ok1.2⟩
      · rename_i hj
        cases Tree.sel_leaf h
        exact ⟨fun n0 W hn hw => wpA_block (ok1.then hn hw (by simp [AExit.inBlock, hj])), ok1.2⟩
    | normal => exact other (by simp) (Tree.sel_leaf h)
    | goto i => exact other (by simp) (Tree.sel_leaf h)
    | ret => exact other (by simp) (Tree.sel_leaf h)
    | panic v => exact other (by simp) (Tree.sel_leaf h)
  | .cond c a b, T, H, x, T', H', Wr, h => by
    unfold evCTb at h
    have h := askB_sel (fun b d => askC_get) h
    split at h
    · rename_i t ht
      rcases Tree.sel_br h with ⟨rfl, h⟩ | ⟨rfl, h⟩
      · have ok1 := evCTb_ok hm hc hl hs n a _ _ _ _ _ _ h
        exact ⟨fun n0 W hn hw => wpA_cond ht (ok1.1 n0 W hn hw), ok1.2⟩
      · have ok1 := evCTb_ok hm hc hl hs n b _ _ _ _ _ _ h
        exact ⟨fun n0 W hn hw => wpA_cond ht (ok1.1 n0 W hn hw), ok1.2⟩
    · exact (Tree.sel_bad h).elim
  | .region id ops false, T, H, x, T', H', Wr, h => by
    unfold evCTb at h
    split at h
    · rename_i t ht
      exact hl.reg _ _ _ _ _ _ _ _ _ ht h
    obtain ⟨⟨T1, H1, L⟩, h1, h⟩ := sel_bind_some h
    cases Tree.sel_leaf h
    obtain ⟨h2, h3⟩ := evRT_chain hc hl.site ops.toList 0 _ T _ _ _ _ (fun j o hj => by simpa using hj) h1
    have e : (List.range ops.toList.length).map (0 + ·) = List.range ops.size := by simp
    rw [e] at h2
    exact ⟨fun n0 W hn hw => wpA_chain h2 hw ⟨rfl, rfl, rfl⟩, h3⟩
  | .region id ops true, T, H, x, T', H', Wr, h => by
    unfold evCTb at h
    obtain ⟨⟨T1, H1, L⟩, h1, h⟩ := sel_bind_some h
    split at h
    · rename_i hd
      cases Tree.sel_leaf h
      obtain ⟨h2, h3⟩ := evRT_chain hc hl.site ops.toList 0 _ T _ _ _ _ (fun j o hj => by simpa using hj) h1
      have e : (List.range ops.toList.length).map (0 + ·) = List.range ops.size := by simp
      rw [e] at h2
      exact ⟨fun n0 W hn hw => wpA_chain_draw hm (resv_idle P _) h2 hw hd ⟨rfl, rfl, rfl⟩, h3.unres⟩
    · exact (Tree.sel_bad h).elim
  | .loop c, T, H, x, T', H', Wr, h => by
    unfold evCTb at h
    split at h
    · rename_i t ht
      exact hl.loop _ _ _ _ _ _ _ _ ht h
    · exact iterT_ok (fun T H x T' H' Wr h => evCTb_ok hm hc hl hs n c T H x T' H' Wr h) n T H x T' H' Wr h
  | .rangeFunc _ _ _ _, T, H, x, T', H', Wr, h => (Tree.sel_bad h).elim
  | .scope c, T, H, x, T', H', Wr, h => hs _ _ _ _ _ _ _ h
  | .refuse _, T, H, x, T', H', Wr, h => (Tree.sel_bad h).elim

theorem passT_ok {P : Program} {f : Code → List AV → AHeap → Tree OutE} (hf : ∀ d T H x T' H' Wr, (f d T H).sel = some (x, T', H', Wr) → CodeOk P d T H x T' H' Wr) (c : Code) : ∀ (k : Nat) (d : Code) (T : List AV) (H : AHeap) (x : AExit) (T' : List AV) (H' : AHeap) (Wr : List Nat), (passT f c k d T H).sel = some (x, T', H', Wr) → Passes P c x T' H' k d T H Wr
  | 0, d, T, H, x, T', H', Wr, h => (Tree.sel_bad h).elim
  | k + 1, d, T, H, x, T', H', Wr, h => by
    unfold passT at h
    obtain ⟨⟨y, T1, H1, W1⟩, h1, h⟩ := sel_bind_some h
    have other : (∀ l, y ≠ .goto l) → (x, T', H', Wr) = (y, T1, H1, W1) → Passes P c x T' H' (k + 1) d T H Wr := by
      intro hne e
      cases e
      exact .out k (hf _ _ _ _ _ _ _ h1) hne
    cases y with
    | goto l =>
      simp only at h
      split at h
      · rename_i rest hr
        obtain ⟨⟨z, T2, H2, W2⟩, h2, h⟩ := sel_bind_some h
        cases Tree.sel_leaf h
        exact .next (hf _ _ _ _ _ _ _ h1) hr (passT_ok hf c k _ _ _ _ _ _ _ h2)
      · exact (Tree.sel_bad h).elim
    | normal => exact other (by simp) (Tree.sel_leaf h)
    | exit i => exact other (by simp) (Tree.sel_leaf h)
    | ret => exact other (by simp) (Tree.sel_leaf h)
    | panic v => exact other (by simp) (Tree.sel_leaf h)

theorem evCT_ok {P : Program} {call : CallT} {lo : LoopO} (hm : P.follows .mixedOrders = true) (hc : CallTOk P call) (hl : LoopsOk P lo) : ∀ (n : Nat) (c : Code) (T : List AV) (H : AHeap) (x : AExit) (T' : List AV) (H' : AHeap) (Wr : List Nat), (evCT P call lo n c T H).sel = some (x, T', H', Wr) → CodeOk P c T H x T' H' Wr
  | 0 => fun c T H x T' H' Wr h => evCTb_ok hm hc hl (fun _ _ _ _ _ _ _ h => (Tree.sel_bad h).elim) 0 c T H x T' H' Wr h
  | n + 1 => fun c T H x T' H' Wr h => evCTb_ok hm hc hl (fun c T H x T' H' Wr h => (passT_ok (fun d T H x T' H' Wr h => evCT_ok hm hc hl n d T H x T' H' Wr h) c n c T H x T' H' Wr h).ok) (n + 1) c T H x T' H' Wr h
end Go.Proofs.YtiipaliigpkfhaaGreat.Ab

/- Part 25: whole functions by the tree evaluator; what is forgotten; loops round by round. -/
set_option linter.unusedVariables false
set_option linter.unusedSimpArgs false
set_option maxRecDepth 100000
namespace Go.Proofs.YtiipaliigpkfhaaGreat.Ab
open Go Go.RowKit

abbrev OrcT := FuncId → List AV → AHeap → Option (Tree (AV × AHeap × List Nat))

def OrcOk (P : Program) (orc : OrcT) : Prop := ∀ g args H t r, orc g args H = some t → t.sel = some r → Ctr P g args r.1 H r.2.1 r.2.2
def noneT : OrcT := fun _ _ _ => none
theorem noneT_ok (P : Program) : OrcOk P noneT := fun _ _ _ _ _ h => by cases h

/-- A function's end. -/
def endT (P : Program) (fn : Func) (H : AHeap) (r : OutE) : Tree (AV × AHeap × List Nat) :=
  match r.1 with
  | .normal | .ret => match resultC P r.2.2.1 fn r.2.1 with
    | some x => .leaf (x, r.2.2.1, below H.length r.2.2.2)
    | none => .bad
  | _ => .bad

def startA (fn : Func) (args : List AV) : List AV := args ++ List.replicate (fn.ntmps - args.length) .any

/-- A function's body, evaluated. -/
def bodyT (P : Program) (call : CallT) (lo : LoopO) (n : Nat) (fn : Func) (args : List AV) (H : AHeap) : Tree (AV × AHeap × List Nat) :=
  match fn.body with
  | none => .bad
  | some c => (evCT P call lo n c (startA fn args) H).bind (endT P fn H)

/-- Functions within functions; what is known of some beforehand, and of loops. -/
def evGL (P : Program) (orc : OrcT) (lo : FuncId → LoopO) : Nat → CallT
  | 0, _, _, _ => .bad
  | n + 1, g, args, H => match orc g args H with
    | some t => t
    | none => match P.funcs[g]? with
      | none => .bad
      | some fn => if (fn.name == "runtime.NumGoroutine") = true then .bad else bodyT P (evGL P orc lo n) (lo g) n fn args H

abbrev evGT (P : Program) (orc : OrcT) : Nat → CallT := evGL P orc (fun _ => noLoop)

theorem ctr_of_code {P : Program} {g : FuncId} {fn : Func} {c : Code} {args : List AV} {y : AExit} {T : List AV} {x : AV} {H H1 : AHeap} {W : List Nat} (hfn : P.funcs[g]? = some fn) (hname : (fn.name == "runtime.NumGoroutine") = false) (hbody : fn.body = some c)
    (hok : CodeOk P c (startA fn args) H y T H1 W) (hy : y = .normal ∨ y = .ret) (hres : resultC P H1 fn T = some x) : Ctr P g args x H H1 (below H.length W) := by
  refine ⟨⟨fn, c, hfn, hname, hbody⟩, ?_, hok.2.1, fun l hl hn => hok.2.2 l hl (fun hm => hn (below_mem hl hm))⟩
  intro E w0 w vs hg hr
  refine calls_of_wp hfn hbody ?_
  have ht : RelT E (startA fn args) (vs ++ Array.replicate (fn.ntmps - vs.size) undef) := by
    have h0 := relL_append hr (k := (⟨by simp [hr.1], fun i x hx => by
      have := List.mem_of_getElem? hx
      rw [List.mem_replicate] at this
      rw [this.2]; exact .any _⟩ : RelL E (List.replicate (fn.ntmps - args.length) .any) (Array.replicate (fn.ntmps - vs.size) undef)))
    exact h0
  refine wp_mono (hok.1 H.length (· ∈ below H.length W) (Nat.le_refl _) (fun l hl hn => below_mem hn hl) E w0 w ⟨_, []⟩ [] (Nat.le_refl _) hg ht rfl) ?_
  rintro e a' w' ⟨E', ax, T', H2, ⟨rfl, rfl, rfl⟩, r, ex, g', t, d⟩
  obtain ⟨v, hv, hrel⟩ := resultC_run g' t hres
  rcases hy with rfl | rfl
  · cases r; exact ⟨d, v, hv, E', .ret _ _ hrel, ex, g'⟩
  · cases r; exact ⟨d, v, hv, E', .ret _ _ hrel, ex, g'⟩

theorem bodyT_ok {P : Program} (hm : P.follows .mixedOrders = true) {call : CallT} (hc : CallTOk P call) {lo : LoopO} {n : Nat} {g : FuncId} {fn : Func} {args : List AV} {H : AHeap} {r : AV × AHeap × List Nat} (hfn : P.funcs[g]? = some fn) (hname : (fn.name == "runtime.NumGoroutine") = false)
    (hl : LoopsOk P lo) (h : (bodyT P call lo n fn args H).sel = some r) : Ctr P g args r.1 H r.2.1 r.2.2 := by
  unfold bodyT at h
  split at h
  · exact (Tree.sel_bad h).elim
  · rename_i c hb
    obtain ⟨⟨y, T, H1, W⟩, h1, h⟩ := sel_bind_some h
    have hok := evCT_ok hm hc hl n c _ _ _ _ _ _ h1
    unfold endT at h
    split at h
    · rename_i hy
      simp only at hy
      split at h
      · rename_i x hx; rw [Tree.sel_leaf h]; exact ctr_of_code hfn hname hb hok (.inl hy) hx
      · exact (Tree.sel_bad h).elim
    · rename_i hy
      simp only at hy
      split at h
      · rename_i x hx; rw [Tree.sel_leaf h]; exact ctr_of_code hfn hname hb hok (.inr hy) hx
      · exact (Tree.sel_bad h).elim
    · exact (Tree.sel_bad h).elim

theorem evGL_ok {P : Program} (hm : P.follows .mixedOrders = true) {orc : OrcT} (horc : OrcOk P orc) {lo : FuncId → LoopO} (hl : ∀ g, LoopsOk P (lo g)) : ∀ n, CallTOk P (evGL P orc lo n)
  | 0 => fun g args H r h => (Tree.sel_bad h).elim
  | n + 1 => fun g args H r h => by
    unfold evGL at h
    split at h
    · rename_i q hq; exact horc _ _ _ _ _ hq h
    · split at h
      · exact (Tree.sel_bad h).elim
      · rename_i fn hfn
        split at h
        · exact (Tree.sel_bad h).elim
        · rename_i hname
          exact bodyT_ok hm (evGL_ok hm horc hl n) hfn (by simpa using hname) (hl g) h

theorem evGT_ok {P : Program} (hm : P.follows .mixedOrders = true) {orc : OrcT} (horc : OrcOk P orc) (n : Nat) : CallTOk P (evGT P orc n) := evGL_ok hm horc (fun _ => noLoop_ok) n

/-- The answer of a function without labels, at the empty heap. -/
def ansA (r : AV × AHeap × List Nat) : AV := r.1

theorem via_some {α β : Type} {t : Tree α} {g : α → β} {F : Option β} {y : β} (h : t.via g = F) (hF : F = some y) : ∃ a, t.sel = some a ∧ g a = y := by
  rw [hF, Tree.via_eq] at h
  cases ha : t.sel with
  | none => rw [ha] at h; cases h
  | some a => rw [ha] at h; exact ⟨a, rfl, by simpa using h⟩

theorem ctr_sc {P : Program} (hm : P.follows .mixedOrders = true) {orc : OrcT} (horc : OrcOk P orc) {n : Nat} {g : FuncId} {args : List AV} {F : Option AV} {u : Value} (h : (evGT P orc n g args []).via ansA = F) (hF : F = some (.sc u)) (hargs : ∀ a ∈ args, LF a) (H : AHeap) : Ctr P g args (.sc u) H H [] := by
  obtain ⟨r, hr, hu⟩ := via_some h hF
  have := evGT_ok hm horc n g args [] r hr
  unfold ansA at hu
  rw [hu] at this
  exact ctr_frame this hargs H

/-! ### What is known of a call without being told -/
inductive Kind where
  | bool
  | int (k : IntKind)

def Kind.val : Kind → Int → Value
  | .bool, n => .bool (n == 1)
  | .int k, n => .int k n

/-- It answers something of its kind, wherever it is called. -/
def Known (P : Program) (k : Kind) (g : FuncId) (args : List AV) : Prop := ∃ n : Int, ∀ H : AHeap, Ctr P g args (.sc (k.val n)) H H []

open Classical in
noncomputable def knownB (P : Program) (k : Kind) (g : FuncId) (args : List AV) : Bool := decide (Known P k g args)
open Classical in
noncomputable def knownN (P : Program) (k : Kind) (g : FuncId) (args : List AV) : Int := if h : Known P k g args then h.choose else 0

theorem knownB_of {P : Program} {k : Kind} {g : FuncId} {args : List AV} (h : Known P k g args) : knownB P k g args = true := by simp [knownB, h]
theorem knownB_ctr {P : Program} {k : Kind} {g : FuncId} {args : List AV} (h : knownB P k g args = true) (H : AHeap) : Ctr P g args (.sc (k.val (knownN P k g args))) H H [] := by
  have h' : Known P k g args := by simpa [knownB] using h
  unfold knownN
  rw [dif_pos h']
  exact h'.choose_spec H

noncomputable def knownT (P : Program) (k : Kind) (g : FuncId) (args : List AV) (H : AHeap) : Tree (AV × AHeap × List Nat) := .br (knownB P k g args) (.leaf (.sc (k.val (knownN P k g args)), H, [])) .bad
theorem knownT_ok {P : Program} {k : Kind} {g : FuncId} {args : List AV} {H : AHeap} {r : AV × AHeap × List Nat} (h : (knownT P k g args H).sel = some r) : Ctr P g args r.1 H r.2.1 r.2.2 := by
  rcases Tree.sel_br h with ⟨hb, h⟩ | ⟨_, h⟩
  · rw [Tree.sel_leaf h]; exact knownB_ctr hb H
  · exact (Tree.sel_bad h).elim

theorem ctr_scL {P : Program} (hm : P.follows .mixedOrders = true) {orc : OrcT} (horc : OrcOk P orc) {lo : FuncId → LoopO} (hl : ∀ g, LoopsOk P (lo g)) {n : Nat} {g : FuncId} {args : List AV} {F : Option AV} {u : Value} (h : (evGL P orc lo n g args []).via ansA = F) (hF : F = some (.sc u)) (hargs : ∀ a ∈ args, LF a) (H : AHeap) : Ctr P g args (.sc u) H H [] := by
  obtain ⟨r, hr, hu⟩ := via_some h hF
  have := evGL_ok hm horc hl n g args [] r hr
  unfold ansA at hu
  rw [hu] at this
  exact ctr_frame this hargs H

/-! ### What is told and asked at once whether it holds -/
open Classical in
noncomputable def loopB (P : Program) (c : Code) (T : List AV) (H : AHeap) (t : Tree OutE) : Bool := decide (∀ x T' H' Wr, t.sel = some (x, T', H', Wr) → CodeOk P (.loop c) T H x T' H' Wr)
open Classical in
noncomputable def callB (P : Program) (g : FuncId) (args : List AV) (H : AHeap) (t : Tree (AV × AHeap × List Nat)) : Bool := decide (∀ r, t.sel = some r → Ctr P g args r.1 H r.2.1 r.2.2)

theorem loopB_of {P : Program} {c : Code} {T : List AV} {H : AHeap} {t : Tree OutE} (h : ∀ x T' H' Wr, t.sel = some (x, T', H', Wr) → CodeOk P (.loop c) T H x T' H' Wr) : loopB P c T H t = true := by simp only [loopB, decide_eq_true_eq]; exact h
theorem callB_of {P : Program} {g : FuncId} {args : List AV} {H : AHeap} {t : Tree (AV × AHeap × List Nat)} (h : ∀ r, t.sel = some r → Ctr P g args r.1 H r.2.1 r.2.2) : callB P g args H t = true := by simp only [callB, decide_eq_true_eq]; exact h

/-- A loop by what is told of it. -/
noncomputable def loopT (P : Program) (c : Code) (T : List AV) (H : AHeap) (t : Tree OutE) : Tree OutE := .br (loopB P c T H t) t .bad
noncomputable def callT (P : Program) (g : FuncId) (args : List AV) (H : AHeap) (t : Tree (AV × AHeap × List Nat)) : Tree (AV × AHeap × List Nat) := .br (callB P g args H t) t .bad

/-- Loops told by the number of their first row. -/
noncomputable def loopsBy (P : Program) (tell : Nat → List AV → AHeap → Option (Tree OutE)) : LoopO := ⟨fun c T H => match fstReg c with
  | some i => match tell i T H with
    | some t => some (loopT P c T H t)
    | none => none
  | none => none, fun _ _ _ _ => none, fun _ _ _ _ => none⟩

theorem loopsBy_ok {P : Program} {tell : Nat → List AV → AHeap → Option (Tree OutE)} : LoopsOk P (loopsBy P tell) := by
  refine ⟨fun c T H t x T' H' Wr h hr => ?_, noSite_ok, fun _ _ _ _ _ _ _ _ _ h => (by cases h)⟩
  unfold loopsBy at h
  simp only at h
  split at h
  · split at h
    · cases h
      rcases Tree.sel_br hr with ⟨hb, hr⟩ | ⟨_, hr⟩
      · simp only [loopB, decide_eq_true_eq] at hb
        exact hb _ _ _ _ hr
      · exact (Tree.sel_bad hr).elim
    · cases h
  · cases h

noncomputable def callsBy (P : Program) (tell : FuncId → List AV → AHeap → Option (Tree (AV × AHeap × List Nat))) : OrcT := fun g args H => match tell g args H with
  | some t => some (callT P g args H t)
  | none => none

theorem callsBy_ok {P : Program} {tell : FuncId → List AV → AHeap → Option (Tree (AV × AHeap × List Nat))} : OrcOk P (callsBy P tell) := by
  intro g args H t r h hr
  unfold callsBy at h
  split at h
  · cases h
    rcases Tree.sel_br hr with ⟨hb, hr⟩ | ⟨_, hr⟩
    · simp only [callB, decide_eq_true_eq] at hb
      exact hb _ hr
    · exact (Tree.sel_bad hr).elim
  · cases h
end Go.Proofs.YtiipaliigpkfhaaGreat.Ab

/- Part 26: what is known may be forgotten; loops, round by round. -/
set_option linter.unusedVariables false
set_option linter.unusedSimpArgs false
set_option maxRecDepth 100000
namespace Go.Proofs.YtiipaliigpkfhaaGreat.Ab
open Go Go.RowKit

/-- One abstract value tells no more than another. -/
def Wk1 (x y : AV) : Prop := ∀ (E : Env) (v : Value), Rel E x v → Rel E y v
def Wk (T T' : List AV) : Prop := T.length = T'.length ∧ ∀ (i : Nat) (y : AV), T'[i]? = some y → ∃ x, T[i]? = some x ∧ Wk1 x y

theorem Wk1.refl (x : AV) : Wk1 x x := fun _ _ h => h
theorem Wk1.any (x : AV) : Wk1 x .any := fun _ v _ => .any v
theorem Wk1.of_eq {x y : AV} (h : x = y) : Wk1 x y := h ▸ .refl x
theorem Wk1.trans {x y z : AV} (h : Wk1 x y) (k : Wk1 y z) : Wk1 x z := fun E v r => k E v (h E v r)
theorem Wk.refl (T : List AV) : Wk T T := ⟨rfl, fun i y h => ⟨y, h, .refl y⟩⟩
theorem Wk.trans {T T1 T2 : List AV} (h : Wk T T1) (k : Wk T1 T2) : Wk T T2 := ⟨h.1.trans k.1, fun i z hz => by
  obtain ⟨y, hy, k1⟩ := k.2 i z hz
  obtain ⟨x, hx, k2⟩ := h.2 i y hy
  exact ⟨x, hx, k2.trans k1⟩⟩
theorem Wk.nil : Wk [] [] := .refl _
theorem Wk.cons {x y : AV} {T T' : List AV} (h : Wk1 x y) (k : Wk T T') : Wk (x :: T) (y :: T') := ⟨by simp [k.1], fun i z hz => by
  cases i with
  | zero => simp at hz; subst hz; exact ⟨x, rfl, h⟩
  | succ i => simp at hz; obtain ⟨w, hw, k1⟩ := k.2 i z hz; exact ⟨w, by simpa using hw, k1⟩⟩

/-- A row's cells, seen otherwise. -/
theorem Wk1.rsl {nl : Bool} {sz n : Nat} {el el' : Nat → List AV} {own : Own} (h : ∀ i, i < n → el i = el' i) : Wk1 (.rsl nl sz n el own) (.rsl nl sz n el' own) := by
  intro E v hr
  cases hr with
  | rnil sz el own ho => exact .rnil sz _ own ho
  | rodd sz el own a ho => exact .rodd sz _ own a ho
  | rsl sz n el own b off c u hn ho hc hl h1 hS hk =>
    exact .rsl sz n el' own b off c u hn ho hc (fun i hi => h i hi ▸ hl i hi) (fun i hi => h i hi ▸ h1 i hi) (fun i hi => h i hi ▸ hS i hi) (fun i hi => h i hi ▸ hk i hi)

theorem Wk1.agg {cs cs' : List AV} (h : Wk cs cs') : Wk1 (.agg cs) (.agg cs') := by
  intro E v hr
  cases hr with
  | agg cs us hs hk => exact .agg cs' us (hs.trans h.1) (fun j y hy => by obtain ⟨x, hx, k⟩ := h.2 j y hy; exact k _ _ (hk j x hx))

theorem RelT.wk {E : Env} {T T' : List AV} {tmps : Array Value} (h : RelT E T tmps) (w : Wk T T') : RelT E T' tmps :=
  ⟨h.1.trans w.1, fun i y hy => by obtain ⟨x, hx, k⟩ := w.2 i y hy; exact k _ _ (h.2 i x hx)⟩

section
variable {P : Program} {c : Code} {T T1 T' T'' : List AV} {H H' : AHeap} {x : AExit} {Wr : List Nat}

theorem CodeOk.weak (h : CodeOk P c T H x T' H' Wr) (w : Wk T' T'') : CodeOk P c T H x T'' H' Wr :=
  ⟨fun n0 W hn hW E w0 w1 a D hn' hg ht hd => wp_mono (h.1 n0 W hn hW E w0 w1 a D hn' hg ht hd) (fun e a w2 ⟨E', ax, T2, H2, ⟨q1, q2, q3⟩, r, ex, g, t, d⟩ => ⟨E', ax, T'', H2, ⟨q1, rfl, q3⟩, r, ex, g, (q2 ▸ t).wk w, d⟩), h.2⟩

theorem CodeOk.weakIn (h : CodeOk P c T1 H x T' H' Wr) (w : Wk T T1) : CodeOk P c T H x T' H' Wr :=
  ⟨fun n0 W hn hW E w0 w1 a D hn' hg ht hd => h.1 n0 W hn hW E w0 w1 a D hn' hg (ht.wk w) hd, h.2⟩

theorem CodeOk.wr {Wr' : List Nat} (h : CodeOk P c T H x T' H' Wr) (w : ∀ l ∈ Wr, l < H.length → l ∈ Wr') : CodeOk P c T H x T' H' Wr' :=
  ⟨fun n0 W hn hW => h.1 n0 W hn (fun l hl hlt => hW l (w l hl (Nat.lt_of_lt_of_le hlt hn)) hlt), h.2.1, fun l hl hm => h.2.2 l hl (fun hm' => hm (w l hm' hl))⟩
end

/-! ### Labels above a line are forgotten -/
theorem Ext.trim {n0 n : Nat} {W : Nat → Prop} {E E' : Env} {H H' : AHeap} {w0 w w' : World} (g : Good E H w0 w) (h : Ext n0 W E H w E' H' w') (hn0 : n0 ≤ H.length) (hn : H.length ≤ n) : Ext n0 W E H w (E'.cut n) (H'.take n) w' := by
  have hlt : ∀ l, (∃ b, E.φ l = some b) ∨ (∃ m x, E.G l m = some x) → l < n := by
    intro l hl
    by_cases hh : l < H.length
    · omega
    · have := g.fresh (Nat.le_of_not_lt hh)
      rcases hl with ⟨b, hb⟩ | ⟨m, x, hx⟩
      · rw [this.1] at hb; cases hb
      · rw [this.2] at hx; cases hx
  refine ⟨⟨fun {l b} hl => ?_, fun h' => h.le.S h', fun {t m x} hl => ?_⟩, h.size, by have := h.len; simp; omega, fun {l} hl hw => ?_, fun hl hw ho => h.keep hl hw ho, fun {l} hl => by simp only [Env.cut]; rw [if_pos (by omega)]; exact h.old hl, fun hb h0 => ⟨(h.stay hb h0).1, fun l ho => (h.stay hb h0).2.1 l (owns_cut ho).2, (h.stay hb h0).2.2⟩⟩
  · have := hlt l (.inl ⟨b, hl⟩); simp [Env.cut, this, h.le.φ hl]
  · have := hlt t (.inr ⟨m, x, hl⟩); simp [Env.cut, this, h.le.G hl]
  · rw [List.getElem?_take, if_pos (by omega)]; exact h.same hl hw

def noPanic : AExit → Bool
  | .panic _ => false
  | _ => true

theorem CodeOk.trim {P : Program} {c : Code} {T T' : List AV} {H H' : AHeap} {x : AExit} {Wr : List Nat} {n : Nat} (h : CodeOk P c T H x T' H' Wr) (hn : H.length ≤ n) (hT : lbAs n T' = true) (hH : ∀ o ∈ H'.take n, objLB n o = true) (hx : noPanic x = true) : CodeOk P c T H x T' (H'.take n) Wr := by
  refine ⟨fun n0 W hn0 hW E w0 w1 a D hn' hg ht hd => wp_mono (h.1 n0 W hn0 hW E w0 w1 a D hn' hg ht hd) ?_, ?_, fun l hl hm => ?_⟩
  · rintro e a w2 ⟨E', ax, T2, H2, ⟨rfl, rfl, rfl⟩, r, ex, g, t, d⟩
    refine ⟨E'.cut n, ax, T2, _, ⟨rfl, rfl, rfl⟩, ?_, ex.trim hg hn' hn, g.trim hH, ⟨t.1, fun i y hy => (t.2 i y hy).cut (lbAs_mem hT y (List.mem_of_getElem? hy))⟩, d⟩
    cases r with
    | normal => exact .normal
    | exit i => exact .exit i
    | goto i => exact .goto i
    | ret => exact .ret
    | panic x v hv => simp [noPanic] at hx
  · have := h.2.1; simp; omega
  · rw [List.getElem?_take, if_pos (by omega)]; exact h.2.2 l hl hm

/-! ### Beside what else there is -/
theorem CodeOk.beside {P : Program} {c : Code} {T T' : List AV} {H : AHeap} {x : AExit} (h : CodeOk P c T H x T' H []) (hT : lbAs H.length T = true) (hT' : lbAs H.length T' = true) (hH : ∀ o ∈ H, objLB H.length o = true) (hx : noPanic x = true) (J : AHeap) : CodeOk P c T (H ++ J) x T' (H ++ J) [] := by
  refine ⟨fun n0 W hn0 hW E w0 w a D hn hg ht hd => ?_, .refl _ _⟩
  have ht0 : RelT (E.cut H.length) T a.tmps := ⟨ht.1, fun i x hx => (ht.2 i x hx).cut (lbAs_mem hT x (List.mem_of_getElem? hx))⟩
  refine wp_mono (h.1 H.length (fun _ => False) (Nat.le_refl _) (fun l hl => by simp at hl) (E.cut H.length) w0 w a D (Nat.le_refl _) (good_part hg hH) ht0 hd) ?_
  rintro e a' w' ⟨E', ax, T2, H2, ⟨rfl, rfl, rfl⟩, r, ex, g, t, d⟩
  obtain ⟨E2, ex2, g2, conv⟩ := merge_state (n0 := n0) (W := W) hg ex g hH
  refine ⟨E2, ax, T2, _, ⟨rfl, rfl, rfl⟩, ?_, ex2, g2, ⟨t.1, fun i y hy => conv _ _ (t.2 i y hy) (lbAs_mem hT' y (List.mem_of_getElem? hy))⟩, d⟩
  cases r with
  | normal => exact .normal
  | exit i => exact .exit i
  | goto i => exact .goto i
  | ret => exact .ret
  | panic x v hv => simp [noPanic] at hx

/-- A row that is too long is none. -/
theorem CodeOk.long {P : Program} {c : Code} {T T' : List AV} {H : AHeap} {x : AExit} {i n sz : Nat} {nl : Bool} {el : Nat → List AV} {own : Own} (h : T[i]? = some (.rsl nl sz n el own)) (hn : maxLen < n) : CodeOk P c T H x T' H [] := by
  refine ⟨fun n0 W hn0 hW E w0 w a D hn' hg ht hd => ?_, .refl _ _⟩
  have := ht.2 i _ h
  generalize a.tmps.getD i undef = v at this
  cases this with
  | rnil => omega
  | rodd => omega
  | rsl sz n el own b off c u h1 ho h2 => omega

/-! ### What is kept of the temporaries -/
def fgo : Nat → List Nat → List AV → List AV
  | _, _, [] => []
  | i, ks, x :: r => (if ks.contains i then x else .any) :: fgo (i + 1) ks r

theorem fgo_wk : ∀ (T : List AV) (i : Nat) (ks : List Nat), Wk T (fgo i ks T)
  | [], i, ks => .refl _
  | x :: r, i, ks => .cons (by by_cases h : ks.contains i = true <;> simp only [h, if_true, if_false, Bool.false_eq_true]; exact .refl x; exact .any x) (fgo_wk r (i + 1) ks)

def anyA : AV → Bool
  | .any => true
  | _ => false
/-- A list of temporaries told by a few places. -/
def tmA (n : Nat) (l : List (Nat × AV)) : List AV := (List.range n).map fun i => match l.find? (·.1 == i) with
  | some (_, x) => x
  | none => .any

/-- Told places, each told no less. -/
inductive WkE : List (Nat × AV) → List (Nat × AV) → Prop where
  | nil : WkE [] []
  | cons {i : Nat} {x y : AV} {l l' : List (Nat × AV)} (h : Wk1 x y) (k : WkE l l') : WkE ((i, x) :: l) ((i, y) :: l')

theorem Wk.tm {n : Nat} {l l' : List (Nat × AV)} (h : WkE l l') : Wk (tmA n l) (tmA n l') := by
  have key : ∀ i : Nat, Wk1 (match l.find? (·.1 == i) with | some (_, x) => x | none => .any) (match l'.find? (·.1 == i) with | some (_, x) => x | none => .any) := by
    intro i
    induction h with
    | nil => exact .refl _
    | @cons k x y l l' h1 h2 ih =>
      simp only [List.find?_cons]
      cases hki : k == i with
      | true => exact h1
      | false => exact ih
  refine ⟨by simp [tmA], fun i y hy => ?_⟩
  unfold tmA at hy ⊢
  rw [List.getElem?_map] at hy
  cases hr : (List.range n)[i]? with
  | none => rw [hr] at hy; cases hy
  | some k =>
    rw [hr] at hy
    simp only [Option.map_some, Option.some.injEq] at hy
    subst hy
    refine ⟨_, by rw [List.getElem?_map, hr]; rfl, key k⟩

structure Tidy where
  x : AExit
  T : List AV
  H : AHeap
  W : List Nat
  ok : Bool

def tidy (ks : List Nat) (n : Nat) (r : OutE) : Tidy := ⟨r.1, fgo 0 ks r.2.1, r.2.2.1.take n, below n r.2.2.2, lbAs n (fgo 0 ks r.2.1) && (r.2.2.1.take n).all (objLB n) && noPanic r.1⟩

theorem code_tidy {P : Program} (hm : P.follows .mixedOrders = true) {call : CallT} (hc : CallTOk P call) {lo : LoopO} {k n : Nat} {c : Code} {T T1 : List AV} {H H1 : AHeap} {ks : List Nat} {x : AExit} {W1 : List Nat} {F : Option Tidy} (hl : LoopsOk P lo) (h : (evCT P call lo k c T H).via (tidy ks n) = F)
    (hF : F = some ⟨x, T1, H1, W1, true⟩) (hn : H.length ≤ n) : CodeOk P c T H x T1 H1 W1 := by
  obtain ⟨⟨y, T2, H2, W2⟩, hr, hg⟩ := via_some h hF
  have hok := evCT_ok hm hc hl k c _ _ _ _ _ _ hr
  simp only [tidy, Tidy.mk.injEq, Bool.and_eq_true] at hg
  obtain ⟨rfl, rfl, rfl, rfl, ⟨h1, h2⟩, h3⟩ := hg
  exact ((hok.weak (fgo_wk _ _ _)).trim hn h1 (by simpa using h2) h3).wr (fun l hl hlt => below_mem (by omega) hl)

/-! ### Rounds -/
inductive Rounds (P : Program) (c : Code) (x : AExit) (T' : List AV) (H' : AHeap) : Nat → List AV → AHeap → List Nat → Prop where
  | out {T : List AV} {H : AHeap} {W : List Nat} (h : CodeOk P c T H x T' H' W) (hx : x ≠ .normal) : Rounds P c x T' H' 0 T H W
  | next {T T1 : List AV} {H H1 : AHeap} {W W' : List Nat} {k : Nat} (h : CodeOk P c T H .normal T1 H1 W) (r : Rounds P c x T' H' k T1 H1 W') : Rounds P c x T' H' (k + 1) T H (W ++ W')

theorem Rounds.keeps {P : Program} {c : Code} {x : AExit} {T' : List AV} {H' : AHeap} {k : Nat} {T : List AV} {H : AHeap} {W : List Nat} (h : Rounds P c x T' H' k T H W) : Keeps H H' W := by
  induction h with
  | out h hx => exact h.2
  | next h r ih => exact h.2.trans ih

theorem Rounds.ok {P : Program} {c : Code} {x : AExit} {T' : List AV} {H' : AHeap} {k : Nat} {T : List AV} {H : AHeap} {Wr : List Nat} (h : Rounds P c x T' H' k T H Wr) : CodeOk P (.loop c) T H x T' H' Wr := by
  refine ⟨fun n0 W hn hW => ?_, h.keeps⟩
  refine wpA_loop (fun m T2 H2 => ∃ W2, Rounds P c x T' H' m T2 H2 W2 ∧ (∀ l ∈ W2, l < n0 → W l) ∧ n0 ≤ H2.length) k ⟨Wr, h, hW, hn⟩ ?_
  rintro m T2 H2 ⟨W2, hr, hW2, hn2⟩
  cases hr with
  | out h hx =>
    refine h.then hn2 hW2 ?_
    cases x with
    | normal => exact absurd rfl hx
    | exit i => exact ⟨rfl, rfl, rfl⟩
    | goto i => exact ⟨rfl, rfl, rfl⟩
    | ret => exact ⟨rfl, rfl, rfl⟩
    | panic y => exact ⟨rfl, rfl, rfl⟩
  | next h r =>
    refine h.then hn2 (fun l hl => hW2 l (List.mem_append_left _ hl)) ?_
    exact ⟨_, Nat.lt_succ_self _, _, r, fun l hl => hW2 l (List.mem_append_right _ hl), Nat.le_trans hn2 h.2.1⟩

/-- Round after round, without a count. -/
def Laps (P : Program) (c : Code) (x : AExit) (T' : List AV) (H' : AHeap) (T : List AV) (H : AHeap) (W : List Nat) : Prop := ∃ k, Rounds P c x T' H' k T H W
end Go.Proofs.YtiipaliigpkfhaaGreat.Ab

/- Part 27: loops of which no more is known than that they end in one of two ways. -/
set_option linter.unusedVariables false
set_option linter.unusedSimpArgs false
set_option maxRecDepth 100000
namespace Go.Proofs.YtiipaliigpkfhaaGreat.Ab
open Go Go.RowKit

/-- What is kept of the temporaries; how it ends. -/
structure LoopK where
  ks : List Nat
  out : List AV → Bool → Int → AExit × List AV

def Ends (P : Program) (c : Code) (T : List AV) (f : Bool → Int → AExit × List AV) : Prop := ∃ b n, CodeOk P (.loop c) T [] (f b n).1 (f b n).2 [] []

open Classical in
noncomputable def endsB (P : Program) (c : Code) (T : List AV) (f : Bool → Int → AExit × List AV) : Bool := decide (Ends P c T f)
open Classical in
noncomputable def endsW (P : Program) (c : Code) (T : List AV) (f : Bool → Int → AExit × List AV) : Bool := if h : Ends P c T f then h.choose else true
open Classical in
noncomputable def endsN (P : Program) (c : Code) (T : List AV) (f : Bool → Int → AExit × List AV) : Int := if h : Ends P c T f then h.choose_spec.choose else 0

theorem endsB_of {P : Program} {c : Code} {T : List AV} {f : Bool → Int → AExit × List AV} (h : Ends P c T f) : endsB P c T f = true := by simp [endsB, h]
theorem ends_code {P : Program} {c : Code} {T : List AV} {f : Bool → Int → AExit × List AV} (h : endsB P c T f = true) : CodeOk P (.loop c) T [] (f (endsW P c T f) (endsN P c T f)).1 (f (endsW P c T f) (endsN P c T f)).2 [] [] := by
  have h' : Ends P c T f := by simpa [endsB] using h
  unfold endsW endsN
  rw [dif_pos h', dif_pos h']
  exact h'.choose_spec.choose_spec

def endOne (H : AHeap) (T0 : List AV) (r : AExit × List AV) : Tree OutE := if (lbAs 0 T0 && lbAs 0 r.2 && noPanic r.1) = true then .leaf (r.1, r.2, H, []) else .bad

noncomputable def endsT (P : Program) (c : Code) (K : LoopK) (T : List AV) (H : AHeap) : Tree OutE :=
  .br (endsB P c (fgo 0 K.ks T) (K.out (fgo 0 K.ks T)))
    (.br (endsW P c (fgo 0 K.ks T) (K.out (fgo 0 K.ks T)))
      (endOne H (fgo 0 K.ks T) (K.out (fgo 0 K.ks T) true (endsN P c (fgo 0 K.ks T) (K.out (fgo 0 K.ks T)))))
      (endOne H (fgo 0 K.ks T) (K.out (fgo 0 K.ks T) false (endsN P c (fgo 0 K.ks T) (K.out (fgo 0 K.ks T)))))) .bad

theorem endsT_ok {P : Program} {c : Code} {K : LoopK} {T T' : List AV} {H H' : AHeap} {x : AExit} {Wr : List Nat} (h : (endsT P c K T H).sel = some (x, T', H', Wr)) : CodeOk P (.loop c) T H x T' H' Wr := by
  rcases Tree.sel_br h with ⟨hb, h⟩ | ⟨_, h⟩
  · have hc := ends_code hb
    have fin : ∀ b, b = endsW P c (fgo 0 K.ks T) (K.out (fgo 0 K.ks T)) → (endOne H (fgo 0 K.ks T) (K.out (fgo 0 K.ks T) b (endsN P c (fgo 0 K.ks T) (K.out (fgo 0 K.ks T))))).sel = some (x, T', H', Wr) → CodeOk P (.loop c) T H x T' H' Wr := by
      intro b hbb h
      rw [← hbb] at hc
      unfold endOne at h
      split at h
      · rename_i hok
        simp only [Bool.and_eq_true] at hok
        have := Tree.sel_leaf h
        simp only [Prod.mk.injEq] at this
        obtain ⟨rfl, rfl, rfl, rfl⟩ := this
        have := hc.beside hok.1.1 hok.1.2 (fun o ho => by simp at ho) hok.2 H'
        exact this.weakIn (fgo_wk T 0 K.ks)
      · exact (Tree.sel_bad h).elim
    rcases Tree.sel_br h with ⟨hw, h⟩ | ⟨hw, h⟩
    · exact fin true hw.symm h
    · exact fin false hw.symm h
  · exact (Tree.sel_bad h).elim

/-- Loops by the number of their first row. -/
noncomputable def loopsEnd (P : Program) (tell : Nat → Option LoopK) : LoopO := ⟨fun c T H => match fstReg c with
  | some i => match tell i with
    | some K => some (endsT P c K T H)
    | none => none
  | none => none, fun _ _ _ _ => none, fun _ _ _ _ => none⟩

theorem loopsEnd_ok {P : Program} {tell : Nat → Option LoopK} : LoopsOk P (loopsEnd P tell) := by
  refine ⟨fun c T H t x T' H' Wr h hr => ?_, noSite_ok, fun _ _ _ _ _ _ _ _ _ h => (by cases h)⟩
  unfold loopsEnd at h
  simp only at h
  split at h
  · split at h
    · cases h; exact endsT_ok hr
    · cases h
  · cases h

theorem tidy_ok {P : Program} {c : Code} {T T1 : List AV} {H H1 : AHeap} {W1 : List Nat} {x : AExit} (h : CodeOk P c T H x T1 H1 W1) (hW : W1 = []) : CodeOk P c T H x T1 H1 [] := hW ▸ h

/-! ### What is told of one run: the loops by their first rows, the calls by their answers' places -/
/-- A loop: its first row; how much of the heap; which temporaries; how it ends. -/
structure ToldL where
  key : Nat
  n0 : Nat
  ks : List Nat
  x : AExit
  T : List AV
/-- A call: where its answer goes; how much of the heap; what it answers. -/
structure ToldC where
  site : Nat
  n0 : Nat
  x : AV

open Classical in
noncomputable def askL (P : Program) (c : Code) (T : List AV) (H : AHeap) (x : AExit) (T' : List AV) : Bool := decide (CodeOk P (.loop c) T H x T' H [])
open Classical in
noncomputable def askCall (P : Program) (g : FuncId) (args : List AV) (H : AHeap) (x : AV) : Bool := decide (Ctr P g args x H H [])

theorem askL_of {P : Program} {c : Code} {T T' : List AV} {H : AHeap} {x : AExit} (h : CodeOk P (.loop c) T H x T' H []) : askL P c T H x T' = true := by simp only [askL, decide_eq_true_eq]; exact h
theorem askCall_of {P : Program} {g : FuncId} {args : List AV} {H : AHeap} {x : AV} (h : Ctr P g args x H H []) : askCall P g args H x = true := by simp only [askCall, decide_eq_true_eq]; exact h

noncomputable def toldLT (P : Program) (e : ToldL) (c : Code) (T : List AV) (H : AHeap) : Tree OutE :=
  if (lbAs (H.take e.n0).length (fgo 0 e.ks T) && lbAs (H.take e.n0).length e.T && (H.take e.n0).all (objLB (H.take e.n0).length) && noPanic e.x) = true then
    .br (askL P c (fgo 0 e.ks T) (H.take e.n0) e.x e.T) (.leaf (e.x, e.T, H, [])) .bad
  else .bad

noncomputable def toldCT (P : Program) (e : ToldC) (g : FuncId) (args : List AV) (H : AHeap) : Tree (AV × AHeap × List Nat) :=
  if (lbAs (H.take e.n0).length args && lbA (H.take e.n0).length e.x && (H.take e.n0).all (objLB (H.take e.n0).length)) = true then
    .br (askCall P g args (H.take e.n0) e.x) (.leaf (e.x, H, [])) .bad
  else .bad

noncomputable def told (P : Program) (ls : List ToldL) (cs : List ToldC) : LoopO :=
  ⟨fun c T H => match fstReg c with
    | some i => match ls.find? (·.key == i) with
      | some e => some (toldLT P e c T H)
      | none => none
    | none => none,
   fun d g args H => match cs.find? (·.site == d) with
    | some e => some (toldCT P e g args H)
    | none => none, fun _ _ _ _ => none⟩

theorem toldLT_ok {P : Program} {e : ToldL} {c : Code} {T T' : List AV} {H H' : AHeap} {x : AExit} {Wr : List Nat} (h : (toldLT P e c T H).sel = some (x, T', H', Wr)) : CodeOk P (.loop c) T H x T' H' Wr := by
  unfold toldLT at h
  split at h
  · rename_i hk
    simp only [Bool.and_eq_true, List.all_eq_true] at hk
    rcases Tree.sel_br h with ⟨hb, h⟩ | ⟨_, h⟩
    · have := Tree.sel_leaf h
      simp only [Prod.mk.injEq] at this
      obtain ⟨rfl, rfl, rfl, rfl⟩ := this
      simp only [askL, decide_eq_true_eq] at hb
      have := hb.beside hk.1.1.1 hk.1.1.2 hk.1.2 hk.2 (H'.drop e.n0)
      rw [List.take_append_drop] at this
      exact this.weakIn (fgo_wk T 0 e.ks)
    · exact (Tree.sel_bad h).elim
  · exact (Tree.sel_bad h).elim

theorem toldCT_ok {P : Program} {e : ToldC} {g : FuncId} {args : List AV} {H : AHeap} {r : AV × AHeap × List Nat} (h : (toldCT P e g args H).sel = some r) : Ctr P g args r.1 H r.2.1 r.2.2 := by
  unfold toldCT at h
  split at h
  · rename_i hk
    simp only [Bool.and_eq_true, List.all_eq_true] at hk
    rcases Tree.sel_br h with ⟨hb, h⟩ | ⟨_, h⟩
    · rw [Tree.sel_leaf h]
      simp only [askCall, decide_eq_true_eq] at hb
      have := ctr_beside hb hk.1.1 hk.1.2 hk.2 (H.drop e.n0)
      rw [List.take_append_drop] at this
      exact this
    · exact (Tree.sel_bad h).elim
  · exact (Tree.sel_bad h).elim

theorem told_ok {P : Program} {ls : List ToldL} {cs : List ToldC} : LoopsOk P (told P ls cs) := by
  refine ⟨fun c T H t x T' H' Wr h hr => ?_, fun d g args H t r h hr => ?_, fun _ _ _ _ _ _ _ _ _ h => (by cases h)⟩
  · unfold told at h
    simp only at h
    split at h
    · split at h
      · cases h; exact toldLT_ok hr
      · cases h
    · cases h
  · unfold told at h
    simp only at h
    split at h
    · cases h; exact toldCT_ok hr
    · cases h
end Go.Proofs.YtiipaliigpkfhaaGreat.Ab
