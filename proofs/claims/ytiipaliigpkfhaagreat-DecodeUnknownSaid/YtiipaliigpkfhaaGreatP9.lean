/- DecodeUnknown: for every name and every bytes, a message that has no fields is decoded as the reference reads its bytes: all that can be read stays as it is; no condition. -/
import Derived.Test.YtiipaliigpkfhaaGreatP8
import Derived.Test.YtiipaliigpkfhaaGreatE6
import Derived.Test.YtiipaliigpkfhaaGreatJ4
set_option linter.unusedVariables false
set_option maxRecDepth 100000
namespace Go.Proofs.YtiipaliigpkfhaaGreat
open Go.ChangeShapes Go.WideShapes Go.ChangeAt Go.RowKit Ab

def bytesX (l : List UInt8) : Nat → Int := fun i => ((l.getD i 0).toNat : Int)

theorem unknownK (s : ByteArray) (nl : Bool) (l : List UInt8) (h : nl = true → l.length = 0) : ∃ H1 Wr, Ctr Tryz.prog 13 [.sc (.string s), encB nl l] (.sc (.bool true)) [] H1 Wr := by
  have hx : Bytes l.length (bytesX l) := fun j hj => by
    unfold bytesX
    have := (l.getD j 0).toNat_lt
    omega
  refine ⟨[], [], (unk_ctr awake19_ctr h hx).argsWk (.cons (.refl _) (.cons (Wk1.rsl (fun i hi => ?_)) .nil))⟩
  simp [bytesX, encByte, List.getD_eq_getElem?_getD, hi]

theorem decodeUnknown_holds : Rows.DecodeUnknownSaid :=
  OpenClaim.holds_of_wide 13 Tryz.f13 rfl rfl rfl rfl rfl rfl rfl ⟨rfl, rfl, rfl, rfl, rfl⟩ rfl rfl rfl rfl rfl (by kernel_rfl) Tryz.func13 decodeUnknown_closed
    (of_decide_eq_true (by kernel_rfl)) (by unfold Func.isWrapper; first | (rw [if_pos (by decide +kernel)]; kernel_rfl) | (rw [if_neg (by decide +kernel)]; exact ⟨rfl, rfl⟩))
    (fun os started H enc _ => decodeUnknown_lifted unknownK os started H enc)
end Go.Proofs.YtiipaliigpkfhaaGreat
