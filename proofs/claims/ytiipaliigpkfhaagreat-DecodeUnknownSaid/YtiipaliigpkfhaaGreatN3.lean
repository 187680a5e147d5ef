/- Part N3: calls told exactly, by the places of their answers. -/
import Derived.Test.YtiipaliigpkfhaaGreatN2
set_option linter.unusedVariables false
set_option linter.unusedSimpArgs false
set_option maxRecDepth 100000
namespace Go.Proofs.YtiipaliigpkfhaaGreat.Ab
open Go Go.RowKit

/-- A call told exactly: the place of its answer, the answer, the heap behind it, what may have been written. -/
structure ToldE where
  site : Nat
  x : AV
  H : AHeap
  W : List Nat

noncomputable def toldE (P : Program) (es : List ToldE) (lo : LoopO) : LoopO :=
  { lo with site := fun d g args H => match es.find? (·.site == d) with
    | some e => some (.br (askFn P g args H e.x e.H e.W) (.leaf (e.x, e.H, e.W)) .bad)
    | none => lo.site d g args H }

theorem toldE_ok {P : Program} {es : List ToldE} {lo : LoopO} (hl : LoopsOk P lo) : LoopsOk P (toldE P es lo) := by
  refine ⟨hl.loop, fun d g args H t r h hr => ?_, hl.reg⟩
  unfold toldE at h
  simp only at h
  split at h
  · cases h
    rcases Tree.sel_br hr with ⟨hb, hr⟩ | ⟨_, hr⟩
    · simp only [askFn, decide_eq_true_eq] at hb
      rw [Tree.sel_leaf hr]
      exact hb
    · exact (Tree.sel_bad hr).elim
  · exact hl.site _ _ _ _ _ _ h hr

/-- What is told of one function alone. -/
noncomputable def only (g0 : FuncId) (lo : LoopO) : FuncId → LoopO := fun g => if g = g0 then lo else noLoop
theorem only_ok {P : Program} {g0 : FuncId} {lo : LoopO} (hl : LoopsOk P lo) (g : FuncId) : LoopsOk P (only g0 lo g) := by
  unfold only
  split
  · exact hl
  · exact noLoop_ok

/-- Closed functions by the closed evaluator. -/
def closedT (P : Program) (gs : List FuncId) (n : Nat) : OrcT := fun g args H => bif gs.contains g then (match evG P (fun _ _ _ => none) n g args H with
  | .ok r => some (.leaf r)
  | .bad _ => none) else none
theorem closedT_ok {P : Program} (hm : P.follows .mixedOrders = true) {gs : List FuncId} {n : Nat} : OrcOk P (closedT P gs n) := by
  intro g args H t r h hr
  unfold closedT at h
  cases hg : gs.contains g with
  | false => rw [hg] at h; cases h
  | true =>
    rw [hg] at h
    simp only [cond_true] at h
    split at h
    · rename_i q hq
      cases h
      rw [Tree.sel_leaf hr]
      exact evG_ok hm (fun _ _ _ _ _ _ h => by cases h) n g args H _ _ _ hq
    · cases h
end Go.Proofs.YtiipaliigpkfhaaGreat.Ab
