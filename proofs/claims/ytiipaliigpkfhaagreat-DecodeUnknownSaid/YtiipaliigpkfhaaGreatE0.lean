/- The alarm clocks: closed runs. -/
import Derived.Test.YtiipaliigpkfhaaGreatDD
import Derived.Test.YtiipaliigpkfhaaGreatC0
set_option linter.unusedVariables false
set_option linter.unusedSimpArgs false
set_option maxRecDepth 100000
namespace Go.Proofs.YtiipaliigpkfhaaGreat.Ab
open Go Go.RowKit Go.Proofs

/-- Nothing is known beforehand. -/
def noOrc : FuncId → List AV → AHeap → Option (AV × AHeap × List Nat) := fun _ _ _ => none

def saysTrue : Ev (AV × AHeap × List Nat) → Bool
  | .ok (.sc (.bool true), _, _) => true
  | _ => false

theorem saysTrue_ok {r : Ev (AV × AHeap × List Nat)} (h : saysTrue r = true) : ∃ H W, r = .ok (.sc (.bool true), H, W) := by
  unfold saysTrue at h
  split at h
  · exact ⟨_, _, rfl⟩
  · cases h

theorem awake17_ctr (H : AHeap) : Ctr Tryz.prog 14 [] (.sc (.bool true)) H H [] := by
  have h : saysTrue (evG Tryz.prog noOrc 40 14 [] []) = true := by kernel_rfl
  obtain ⟨H1, W, h1⟩ := saysTrue_ok h
  exact ctr_frame (evG_ok mixed (fun _ _ _ _ _ _ h => by cases h) 40 _ _ _ _ _ _ h1) (fun a ha => by simp at ha) H
end Go.Proofs.YtiipaliigpkfhaaGreat.Ab
