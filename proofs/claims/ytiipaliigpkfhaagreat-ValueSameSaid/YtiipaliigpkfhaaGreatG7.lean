/- ValueSame: of every two messages the program says whether they are alike, and how deep each stands, as the reference does; no condition. -/
import Derived.Test.YtiipaliigpkfhaaGreatG6
import Derived.Test.YtiipaliigpkfhaaGreatE3
import Derived.Test.YtiipaliigpkfhaaGreatJ2
set_option linter.unusedVariables false
set_option maxRecDepth 100000
namespace Go.Proofs.YtiipaliigpkfhaaGreat
open Go.ChangeShapes Go.WideShapes Go.ChangeAt Go.RowKit Ab

theorem sameK (x y : Msg) : ∃ H1 Wr, Ctr Tryz.prog 7 [.agg (encMsg x), .agg (encMsg y)] (.sc (.bool true)) [] H1 Wr := by
  refine ⟨[], [], ?_⟩
  rw [encMsg_P, encMsg_P]
  exact same_ctr x y

theorem valueSame_holds : Rows.ValueSameSaid :=
  OpenClaim.holds_of_wide 7 Tryz.f7 rfl rfl rfl rfl rfl rfl rfl ⟨rfl, rfl, rfl, rfl, rfl⟩ rfl rfl rfl rfl rfl (by kernel_rfl) Tryz.func7 valueSame_closed
    (of_decide_eq_true (by kernel_rfl)) (by unfold Func.isWrapper; first | (rw [if_pos (by decide +kernel)]; kernel_rfl) | (rw [if_neg (by decide +kernel)]; exact ⟨rfl, rfl⟩))
    (fun os started H enc _ => valueSame_lifted sameK os started H enc)
end Go.Proofs.YtiipaliigpkfhaaGreat
