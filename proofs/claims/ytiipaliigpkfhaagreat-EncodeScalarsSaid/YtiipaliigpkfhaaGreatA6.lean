/- Part 6: operations that make variables, store, build. -/
import Derived.Test.YtiipaliigpkfhaaGreatA5
set_option linter.unusedVariables false
set_option linter.unusedSimpArgs false
namespace Go.Proofs.YtiipaliigpkfhaaGreat.Ab
open Go Go.RowKit

/-- Cells stand for a list, one by one. -/
def RA (E : Env) (cs : List AV) (arr : Array Value) : Prop := arr.size = cs.length ∧ ∀ (j : Nat) (x : AV), cs[j]? = some x → Rel E x (arr.getD j undef)

theorem RA.cells {E : Env} {cs : List AV} {arr : Array Value} (h : RA E cs arr) : RelCells E cs arr := fun j x hj => by
  have hlt : j < arr.size := by rw [h.1]; exact (List.getElem?_eq_some_iff.1 hj).1
  exact ⟨arr.getD j undef, by simp [Array.getD_eq_getD_getElem?, hlt], h.2 j x hj⟩

theorem RA.one {E : Env} {x : AV} {v : Value} (h : Rel E x v) : RA E [x] #[v] := ⟨rfl, fun j y hj => by
  cases j with
  | zero => simp at hj; subst hj; exact h
  | succ j => simp at hj⟩

def notAny : AV → Bool
  | .any => false
  | _ => true

theorem cells_rel {E : Env} {x : AV} {v : Value} (h : Rel E x v) (hx : notAny x = true) : RA E x.cells v.cells := by
  cases h with
  | any v => simp [notAny] at hx
  | agg cs us hl k => exact ⟨hl, k⟩
  | sc v hp =>
    cases v <;> first | exact RA.one (.sc _ hp) | simp [plain] at hp
  | ptr l o b h => exact RA.one (.ptr l o b h)
  | rptr cs b off u h k => exact RA.one (.rptr cs b off u h k)
  | rnil sz el own h => exact RA.one (.rnil sz el own h)
  | rodd sz el own a h => exact RA.one (.rodd sz el own a h)
  | rsl sz n el own b off c u hn ho hc hl h1 h k => exact RA.one (.rsl sz n el own b off c u hn ho hc hl h1 h k)
  | fn f a b us vs h1 h2 k1 k2 => exact RA.one (.fn f a b us vs h1 h2 k1 k2)
  | ifc t x v k => exact RA.one (.ifc t x v k)
  | tup cs us h k => exact RA.one (.tup cs us h k)
  | mapr l b h => exact RA.one (.mapr l b h)
  | stamp l i n h => exact RA.one (.stamp l i n h)
  | msl l sz n b h hn => exact RA.one (.msl l sz n b h hn)

theorem oneC_store {E : Env} {x : AV} {v : Value} (h : Rel E x v) (hx : oneC x = true) {α : Type} (P : Program) (m : Mode) (a : Addr) (k : Sem α) (w : World) :
    (Sem.store m a v k).run P w = match w.cell? a with
      | some _ => if w.frozen? a then .halt (.unsupported (.unsafePointer "a write to bytes that a string shares")) w else k.run P (w.setCell a v)
      | none => match w.farStore P a v (m == .atomic) with
        | .ok (w, _) => k.run P w
        | .error h => .halt h w := by
  cases h with
  | any v => simp [oneC] at hx
  | agg cs us hl k => simp [oneC] at hx
  | tup cs us hl k => simp [oneC] at hx
  | sc v hp => cases v <;> first | rfl | simp [plain] at hp
  | _ => rfl

def setMany : List AV → Nat → List AV → List AV
  | cs, _, [] => cs
  | cs, o, x :: r => setMany (cs.set o x) (o + 1) r

theorem setMany_length : ∀ (xs cs : List AV) (o : Nat), (setMany cs o xs).length = cs.length
  | [], _, _ => rfl
  | x :: r, cs, o => by rw [setMany, setMany_length r]; simp

section
variable {P : Program} {o : Oper} {T : List AV} {H : AHeap}

theorem storeCells_run {E : Env} {w0 : World} {l b off n0 : Nat} {W : Nat → Prop} (hb : E.φ l = some b) (hW : l < n0 → W l) : ∀ (xs : List AV) (vs : List Value) (i : Nat) (H : AHeap) (cs : List AV) (w : World),
    Good E H w0 w → H[l]? = some (.cells cs) → vs.length = xs.length → (∀ (j : Nat) (x : AV), xs[j]? = some x → Rel E x (vs.getD j undef) ∧ oneC x = true) → off + i + xs.length ≤ cs.length →
    ∃ w', (storeCells ⟨b, off, none⟩ vs i).run P w = .ok () w' ∧ Good E (H.set l (.cells (setMany cs (off + i) xs))) w0 w' ∧ Ext n0 W E H w E (H.set l (.cells (setMany cs (off + i) xs))) w'
  | [], vs, i, H, cs, w, hg, hl, hlen, hr, hle => by
    have : vs = [] := List.length_eq_zero_iff.1 hlen
    subst this
    have hs : H.set l (.cells cs) = H := by
      refine List.ext_getElem? fun k => ?_
      by_cases hk : l = k
      · subst hk; rw [List.getElem?_set_self (List.getElem?_eq_some_iff.1 hl).1, hl]
      · rw [List.getElem?_set_ne hk]
    refine ⟨w, rfl, ?_, ?_⟩ <;> rw [setMany, hs]
    · exact hg
    · exact .refl _ _ _ _ _
  | x :: r, vs, i, H, cs, w, hg, hl, hlen, hr, hle => by
    match vs, hlen with
    | v :: vs', hlen =>
      obtain ⟨h0, h1⟩ := hr 0 x rfl
      simp only [List.getD_cons_zero] at h0
      simp only [List.length_cons] at hle hlen
      have hj : cs[off + i]? = some cs[off + i] := List.getElem?_eq_getElem (by omega)
      obtain ⟨g1, hc, hf⟩ := hg.set hl hb hj h0
      have e1 := set_ext (cs' := cs.set (off + i) x) (v := v) (j := off + i) hg hW hl hb
      have hl1 : (H.set l (.cells (cs.set (off + i) x)))[l]? = some (.cells (cs.set (off + i) x)) := List.getElem?_set_self (List.getElem?_eq_some_iff.1 hl).1
      obtain ⟨w', hrun, g2, e2⟩ := storeCells_run (off := off) hb hW r vs' (i + 1) _ _ _ g1 hl1 (by omega) (fun j y hy => by
        have := hr (j + 1) y (by simpa using hy)
        simpa using this) (by simp; omega)
      rw [List.set_set] at g2 e2
      refine ⟨w', ?_, ?_, ?_⟩
      · unfold storeCells
        rw [Sem.run_bind]
        have hs : (store ((⟨b, off, none⟩ : Addr).add i) v).run P w = .ok () (w.setCell ⟨b, off + i, none⟩ v) := by
          rw [add_plain']
          unfold store
          rw [oneC_store h0 h1]
          cases hcell : w.cell? ⟨b, off + i, none⟩ with
          | none => exact absurd hcell hc
          | some u => simp [hf, Sem.run]
        rw [hs]
        exact hrun
      · rw [setMany]; exact g2
      · rw [setMany]; exact e1.trans e2

theorem opA_store {t : TypeId} {p q : Operand} {l off : Nat} {cs : List AV} {x : AV} (ho : o.op = .store t p q) (hp : opdA T p = .ptr l off) (hl : H[l]? = some (.cells cs)) (hq : opdA T q = x) (hx : notAny x = true)
    (hs : pureEval P (Go.sizeOf t) = some x.cells.length) (h1 : ∀ y ∈ x.cells, oneC y = true) (hle : off + x.cells.length ≤ cs.length) :
    OpA P o T H .any (H.set l (.cells (setMany cs off x.cells))) [l] := by
  refine opA_skip fun E w0 w ρ hg ht => ?_
  have hr := ht p (by simp [ho, Op.operands, Call.operands])
  rw [hp] at hr
  have hrq := ht q (by simp [ho, Op.operands, Call.operands])
  rw [hq] at hrq
  generalize hv : ρ p = v at hr
  generalize hw : ρ q = u at hrq
  cases hr with
  | ptr l off b hb =>
    have hc := cells_rel hrq hx
    obtain ⟨w', hrun, g', e'⟩ := storeCells_run (P := P) (off := off) hb (n0 := H.length) (W := (· ∈ [l])) (fun _ => by simp) x.cells u.cells.toList 0 H cs w hg hl (by simpa using hc.1) (fun j y hy => ⟨by simpa using hc.2 j y hy, h1 y (List.mem_of_getElem? hy)⟩) (by simpa using hle)
    refine ⟨E, w', ?_, by simpa using e', by simpa using g'⟩
    simp only [execOp, ho, Instr.storeAt, hv, hw, Sem.run_bind, Instr.sureAddr, Sem.run_pure, Result.andThen_ok]
    unfold storeVar
    rw [Sem.run_bind, pureEval_run hs]
    simp only [Result.andThen_ok, hc.1, ne_eq, not_true, if_false]
    simp only [hrun, Result.andThen_ok, pure_bind]

theorem opA_box {t : TypeId} {q : Operand} {x : AV} (ho : o.op = .box t q) (hq : opdA T q = x) (hx : notAny x = true) : OpA P o T H (.ptr H.length 0) (H ++ [.cells x.cells]) [] := by
  refine opA_run fun E w0 w ρ hg ht => ?_
  have hrq := ht q (by simp [ho, Op.operands, Call.operands])
  rw [hq] at hrq
  have hc := cells_rel hrq hx
  refine ⟨E.withφ H.length w.heap.size, .pointer (some ⟨w.heap.size, 0, none⟩), w.alloc (.cells (ρ q).cells t), ?_, new_ext _ _ (Nat.le_refl _) hg _ _, hg.new t hc.cells, .ptr _ _ _ (withφ_self _ _ _)⟩
  simp only [execOp, ho, Instr.box, newVar, newRow, newObj, Sem.run_bind, Sem.run, Sem.run_pure, Result.andThen_ok]
  rfl

theorem opA_alloc {t : TypeId} {z : Value} {x : AV} (ho : o.op = .alloc t) (hz : pureEval P (zeroValue t) = some z) (hq : constA z = x) (hx : notAny x = true) : OpA P o T H (.ptr H.length 0) (H ++ [.cells x.cells]) [] := by
  refine opA_run fun E w0 w ρ hg ht => ?_
  have hrq := constA_rel E _ z (Nat.lt_succ_self _)
  rw [hq] at hrq
  have hc := cells_rel hrq hx
  refine ⟨E.withφ H.length w.heap.size, .pointer (some ⟨w.heap.size, 0, none⟩), w.alloc (.cells z.cells t), ?_, new_ext _ _ (Nat.le_refl _) hg _ _, hg.new t hc.cells, .ptr _ _ _ (withφ_self _ _ _)⟩
  simp only [execOp, ho, Instr.alloc, Sem.run_bind, pureEval_run hz, Result.andThen_ok]
  simp only [newVar, newRow, newObj, Sem.run_bind, Sem.run, Sem.run_pure, Result.andThen_ok]
  rfl

/-! ### Literals -/
def fillA (place : Nat → Option (Nat × Nat)) : List AV → List (Nat × AV) → Option (List AV)
  | cs, [] => some cs
  | cs, (i, x) :: rest =>
    match place i with
    | none => none
    | some (off, size) =>
      if notAny x && x.cells.length == size && decide (off + x.cells.length ≤ cs.length) then fillA place (setMany cs off x.cells) rest else none

theorem setMany_RA {E : Env} : ∀ (xs : List AV) (vs : List Value) (k : Nat) (cs : List AV) (arr : Array Value) (off : Nat), RA E cs arr → vs.length = xs.length → (∀ (j : Nat) (x : AV), xs[j]? = some x → Rel E x (vs.getD j undef)) → off + k + xs.length ≤ cs.length →
    RA E (setMany cs (off + k) xs) ((vs.zipIdx k).foldl (fun cs (c, j) => cs.setIfInBounds (off + j) c) arr)
  | [], vs, k, cs, arr, off, h, hl, hr, hle => by
    have : vs = [] := List.length_eq_zero_iff.1 hl
    subst this
    exact h
  | x :: r, vs, k, cs, arr, off, h, hl, hr, hle => by
    match vs, hl with
    | v :: vs', hl =>
      simp only [List.length_cons] at hl hle
      rw [List.zipIdx_cons, List.foldl_cons, setMany]
      refine setMany_RA r vs' (k + 1) _ _ off ⟨by simp [h.1], fun j y hj => ?_⟩ (by omega) (fun j y hy => by simpa using hr (j + 1) y (by simpa using hy)) (by simp; omega)
      by_cases hjk : off + k = j
      · subst hjk
        rw [List.getElem?_set_self (by omega)] at hj
        simp only [Option.some.injEq] at hj
        subst hj
        have hlt : off + k < arr.size := by rw [h.1]; omega
        have e : (arr.setIfInBounds (off + k) v).getD (off + k) undef = v := by simp [Array.getD_eq_getD_getElem?, hlt]
        rw [e]
        simpa using hr 0 x rfl
      · rw [List.getElem?_set_ne hjk] at hj
        have e : (arr.setIfInBounds (off + k) v).getD j undef = arr.getD j undef := by simp [Array.getD_eq_getD_getElem?, Array.getElem?_setIfInBounds_ne hjk]
        rw [e]
        exact h.2 j y hj

theorem fill_RA {E : Env} {place : Nat → Option (Nat × Nat)} : ∀ (ps : List (Nat × AV)) (qs : List (Nat × Value)) (cs ds : List AV) (arr : Array Value), RA E cs arr → qs.length = ps.length →
    (∀ (j : Nat) (p : Nat × AV), ps[j]? = some p → ∃ q, qs[j]? = some q ∧ q.1 = p.1 ∧ Rel E p.2 q.2) → fillA place cs ps = some ds → ∃ out, Instr.fill place arr qs = some out ∧ RA E ds out
  | [], qs, cs, ds, arr, h, hl, hr, hf => by
    have : qs = [] := List.length_eq_zero_iff.1 hl
    subst this
    simp only [fillA, Option.some.injEq] at hf
    subst hf
    exact ⟨arr, rfl, h⟩
  | (i, x) :: rest, qs, cs, ds, arr, h, hl, hr, hf => by
    match qs, hl with
    | (i', v) :: qs', hl =>
      obtain ⟨q, hq, h1, h2⟩ := hr 0 (i, x) rfl
      simp only [List.getElem?_cons_zero, Option.some.injEq] at hq
      subst hq
      simp only at h1 h2
      subst h1
      unfold fillA at hf
      cases hp : place i' with
      | none => rw [hp] at hf; cases hf
      | some os =>
        obtain ⟨off, size⟩ := os
        rw [hp] at hf
        simp only at hf
        split at hf
        · rename_i hc
          simp only [Bool.and_eq_true, beq_iff_eq, decide_eq_true_eq] at hc
          obtain ⟨⟨hna, hsz⟩, hle⟩ := hc
          have hcr := cells_rel h2 hna
          have := setMany_RA x.cells v.cells.toList 0 cs arr off h (by simpa using hcr.1) (fun j y hy => by simpa using hcr.2 j y hy) (by simpa using hle)
          obtain ⟨out, ho, hra⟩ := fill_RA rest qs' _ ds _ this (by simpa using hl) (fun j p hj => by simpa using hr (j + 1) p (by simpa using hj)) (by simpa using hf)
          refine ⟨out, ?_, hra⟩
          unfold Instr.fill
          rw [hp]
          simp only
          rw [if_neg (by
            simp only [Bool.or_eq_true, decide_eq_true_eq, not_or]
            rw [hcr.1, h.1, hsz]
            refine ⟨by simp, ?_⟩
            rw [hsz] at hle
            simpa using hle)]
          rw [← ho]
          congr 1
          rw [← Array.foldl_toList, Array.toList_zipIdx]
        · cases hf
end
end Go.Proofs.YtiipaliigpkfhaaGreat.Ab
