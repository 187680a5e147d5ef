/- The second alarm clock: a closed run. -/
import Derived.Test.YtiipaliigpkfhaaGreatE0
set_option linter.unusedVariables false
set_option maxRecDepth 100000
namespace Go.Proofs.YtiipaliigpkfhaaGreat.Ab
open Go Go.RowKit Go.Proofs

theorem awake18_ctr (H : AHeap) : Ctr Tryz.prog 34 [] (.sc (.bool true)) H H [] := by
  have h : saysTrue (evG Tryz.prog noOrc 40 34 [] []) = true := by kernel_rfl
  obtain ⟨H1, W, h1⟩ := saysTrue_ok h
  exact ctr_frame (evG_ok mixed (fun _ _ _ _ _ _ h => by cases h) 40 _ _ _ _ _ _ h1) (fun a ha => by simp at ha) H
end Go.Proofs.YtiipaliigpkfhaaGreat.Ab
