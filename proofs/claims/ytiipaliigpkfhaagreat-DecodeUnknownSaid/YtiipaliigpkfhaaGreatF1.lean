/- Contracts of the functions over scalars. -/
import Derived.Test.YtiipaliigpkfhaaGreatE0
set_option linter.unusedVariables false
set_option linter.unusedSimpArgs false
set_option maxRecDepth 100000
namespace Go.Proofs.YtiipaliigpkfhaaGreat.Ab
open Go Go.RowKit Go.Proofs

def T (b : Bool) : Option AV := some (.sc (.bool b))

def numericF (k : Int) : Bool := (decide (1 ≤ k) && decide (k ≤ 8)) || (decide (13 ≤ k) && decide (k ≤ 18))
theorem numeric_tree (k : Int) : (evGT Tryz.prog noneT 10 48 [.sc (.int .i64 k)] []).via ansA =
    bif decide (k ≥ 1) then (bif decide (k ≤ 8) then T true else bif decide (k ≥ 13) then T (decide (k ≤ 18)) else T false) else bif decide (k ≥ 13) then T (decide (k ≤ 18)) else T false := by kernel_rfl
theorem numeric_ctr (k : Int) (H : AHeap) : Ctr Tryz.prog 48 [.sc (.int .i64 k)] (.sc (.bool (numericF k))) H H [] := by
  refine ctr_sc mixed (noneT_ok _) (numeric_tree k) ?_ (fun a ha => by simp at ha; subst ha; exact .sc _) H
  unfold numericF T
  by_cases h1 : 1 ≤ k <;> by_cases h2 : k ≤ 8 <;> by_cases h3 : 13 ≤ k <;> by_cases h4 : k ≤ 18 <;> simp [h1, h2, h3, h4] <;> omega

def signedF (k : Int) : Bool := k == 5 || k == 17 || k == 15 || k == 14
theorem signed_tree (k : Int) : (evGT Tryz.prog noneT 10 49 [.sc (.int .i64 k)] []).via ansA =
    bif k == 5 then T true else bif k == 17 then T true else bif k == 15 then T true else T (k == 14) := by kernel_rfl
theorem signed_ctr (k : Int) (H : AHeap) : Ctr Tryz.prog 49 [.sc (.int .i64 k)] (.sc (.bool (signedF k))) H H [] := by
  refine ctr_sc mixed (noneT_ok _) (signed_tree k) ?_ (fun a ha => by simp at ha; subst ha; exact .sc _) H
  unfold signedF T
  cases k == 5 <;> cases k == 17 <;> cases k == 15 <;> rfl

/-! ### What is known, put together -/
def orB1 (g0 : FuncId) (f : Int → Bool) : OrcT := fun g args H => if g = g0 then match args with
    | [.sc (.int .i64 k)] => some (.leaf (.sc (.bool (f k)), H, []))
    | _ => none
  else none
theorem orB1_ok {P : Program} {g0 : FuncId} {f : Int → Bool} (h : ∀ k H, Ctr P g0 [.sc (.int .i64 k)] (.sc (.bool (f k))) H H []) : OrcOk P (orB1 g0 f) := by
  intro g args H t r ho hr
  unfold orB1 at ho
  split at ho
  · rename_i hg
    subst hg
    split at ho
    · cases ho; rw [Tree.sel_leaf hr]; exact h _ H
    · cases ho
  · cases ho
def orElse (a b : OrcT) : OrcT := fun g args H => match a g args H with
  | some t => some t
  | none => b g args H
theorem orElse_ok {P : Program} {a b : OrcT} (ha : OrcOk P a) (hb : OrcOk P b) : OrcOk P (orElse a b) := by
  intro g args H t r ho hr
  unfold orElse at ho
  split at ho
  · rename_i q hq; cases ho; exact ha _ _ _ _ _ hq hr
  · exact hb _ _ _ _ _ ho hr
end Go.Proofs.YtiipaliigpkfhaaGreat.Ab
