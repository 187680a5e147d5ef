/- EncodeScalars: for every type's number and every worth the program's bytes and kind are the reference's; no condition. -/
import Derived.Test.YtiipaliigpkfhaaGreatK2
import Derived.Test.YtiipaliigpkfhaaGreatE4
import Derived.Test.YtiipaliigpkfhaaGreatE5
import Derived.Test.YtiipaliigpkfhaaGreatJ3
set_option linter.unusedVariables false
set_option maxRecDepth 100000
namespace Go.Proofs.YtiipaliigpkfhaaGreat
open Go.ChangeShapes Go.WideShapes Go.ChangeAt Go.RowKit Ab

theorem encodeK (k : Int) (x : Val) (h : x.ok) : ∃ H1 Wr, Ctr Tryz.prog 8 [.sc (.int .i64 k), .agg (encVal x)] (.sc (.bool true)) [] H1 Wr := by
  obtain ⟨n, a, b, m⟩ := x
  simp only [Val.ok] at h
  have hn := h.1
  have e1 : IntKind.min .u64 = 0 := rfl
  have e2 : IntKind.max .u64 = 18446744073709551615 := rfl
  simp [Lit.wf, e1, e2] at hn
  refine ⟨[], [], ?_⟩
  rw [encVal_P]
  exact enc_ctr awake18_ctr k _ (by show 0 ≤ n; omega) (by show n < 18446744073709551616; omega)

theorem encodeScalars_holds : Rows.EncodeScalarsSaid :=
  OpenClaim.holds_of_wide 8 Tryz.f8 rfl rfl rfl rfl rfl rfl rfl ⟨rfl, rfl, rfl, rfl, rfl⟩ rfl rfl rfl rfl rfl (by kernel_rfl) Tryz.func8 encodeScalars_closed
    (of_decide_eq_true (by kernel_rfl)) (by unfold Func.isWrapper; first | (rw [if_pos (by decide +kernel)]; kernel_rfl) | (rw [if_neg (by decide +kernel)]; exact ⟨rfl, rfl⟩))
    (fun os started H enc _ => encodeScalars_lifted (fun k x _ hx => encodeK k x hx) os started H enc)
end Go.Proofs.YtiipaliigpkfhaaGreat
