/- ValueScalars: for every type's number and every worth the program's answer is the reference's; no condition. -/
import Derived.Test.YtiipaliigpkfhaaGreatF5
import Derived.Test.YtiipaliigpkfhaaGreatE2
import Derived.Test.YtiipaliigpkfhaaGreatJ1
set_option linter.unusedVariables false
set_option maxRecDepth 100000
namespace Go.Proofs.YtiipaliigpkfhaaGreat
open Go.ChangeShapes Go.WideShapes Go.ChangeAt Go.RowKit Ab

theorem scalarsK (k : Int) (x : Val) (h : x.ok) : ∃ H1 Wr, Ctr Tryz.prog 3 [.sc (.int .i64 k), .agg (encVal x)] (.sc (.bool true)) [] H1 Wr := by
  obtain ⟨n, a, b, m⟩ := x
  simp only [Val.ok] at h
  have hn := h.1
  have e1 : IntKind.min .u64 = 0 := rfl
  have e2 : IntKind.max .u64 = 18446744073709551615 := rfl
  simp [Lit.wf, e1, e2] at hn
  refine ⟨[], [], ?_⟩
  rw [encVal_P]
  exact scalars_ctr k _ (by show 0 ≤ n; omega) (by show n < 18446744073709551616; omega)

theorem valueScalars_holds : Rows.ValueScalarsSaid :=
  OpenClaim.holds_of_wide 3 Tryz.f3 rfl rfl rfl rfl rfl rfl rfl ⟨rfl, rfl, rfl, rfl, rfl⟩ rfl rfl rfl rfl rfl (by kernel_rfl) Tryz.func3 valueScalars_closed
    (of_decide_eq_true (by kernel_rfl)) (by unfold Func.isWrapper; first | (rw [if_pos (by decide +kernel)]; kernel_rfl) | (rw [if_neg (by decide +kernel)]; exact ⟨rfl, rfl⟩))
    (fun os started H enc _ => valueScalars_lifted (fun k x _ hx => scalarsK k x hx) os started H enc)
end Go.Proofs.YtiipaliigpkfhaaGreat
