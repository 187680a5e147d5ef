/- Whether a text is a name: it is known of every text that the question is answered. -/
import Derived.Test.YtiipaliigpkfhaaGreatM9
import Derived.Test.YtiipaliigpkfhaaGreatF5
set_option linter.unusedVariables false
set_option linter.unusedSimpArgs false
set_option maxRecDepth 100000
namespace Go.Proofs.YtiipaliigpkfhaaGreat.Ab
open Go Go.RowKit Go.Proofs

section
variable {α : Type} (c : Int) (A B : α)
def letter4 : α := bif !(c == 95) then B else A
def letter3 : α := bif decide (c ≥ 48) then (bif decide (c ≤ 57) then A else letter4 c A B) else letter4 c A B
def letter2 : α := bif decide (c ≥ 65) then (bif decide (c ≤ 90) then A else letter3 c A B) else letter3 c A B
def letter1 : α := bif decide (c ≥ 97) then (bif decide (c ≤ 122) then A else letter2 c A B) else letter2 c A B
theorem letter_cases : letter1 c A B = A ∨ letter1 c A B = B := by
  have h4 : letter4 c A B = A ∨ letter4 c A B = B := by unfold letter4; cases (!(c == 95)) <;> simp
  have cb : ∀ (b1 b2 : Bool) (z : α), (z = A ∨ z = B) → ((bif b1 then (bif b2 then A else z) else z) = A ∨ (bif b1 then (bif b2 then A else z) else z) = B) := fun b1 b2 z hz => by cases b1 <;> cases b2 <;> simp [hz]
  have h3 : letter3 c A B = A ∨ letter3 c A B = B := cb _ _ _ h4
  have h2 : letter2 c A B = A ∨ letter2 c A B = B := cb _ _ _ h3
  exact cb _ _ _ h2
end

section
variable (s : ByteArray)
def T187 (p : Int) : List AV := tmA 29 [(0, .sc (.string s)), (2, .sc (.bool false)), (3, i64 p)]

theorem round187 (p : Nat) : (evCT Tryz.prog (evGT Tryz.prog noneT 10) noLoop 10 (loopOf Tryz.f187 2) (T187 s p) []).via (tidyK [0, 2, 3] [] 0) =
    bif decide ((p : Int) < (s.size : Int)) then bif decide ((0 : Int) ≤ (p : Int) ∧ (p : Int) < (s.size : Int)) then
      letter1 (byteAt s p) (some ⟨.normal, T187 s (IntKind.wrap .i64 ((p : Int) + 1)), [], [], true⟩) (some ⟨.ret, T187 s p, [], [], true⟩) else none
    else some ⟨.exit 0, T187 s p, [], [], true⟩ := by kernel_rfl

theorem whole187 (n : Nat) : (evGL Tryz.prog noneT (fun _ => toldX Tryz.prog [⟨2, [0, 2, 3], .exit 0, T187 s n, [], []⟩] noLoop) 10 187 [.sc (.string s)] []).via ansA =
    bif askX Tryz.prog (loopOf Tryz.f187 2) (T187 s ((0 : Nat) : Int)) [] (.exit 0) (T187 s n) [] [] then
      (bif decide ((s.size : Int) ≥ 1) then bif decide ((s.size : Int) ≤ 200) then bif decide ((0 : Int) ≤ 0 ∧ (0 : Int) < (s.size : Int)) then
        bif decide (byteAt s 0 ≥ 48) then some (.sc (.bool (!(decide (byteAt s 0 ≤ 57))))) else some (.sc (.bool true)) else none else some (.sc (.bool false)) else some (.sc (.bool false))) else none := by kernel_rfl
theorem whole187r (n : Nat) : (evGL Tryz.prog noneT (fun _ => toldX Tryz.prog [⟨2, [0, 2, 3], .ret, T187 s n, [], []⟩] noLoop) 10 187 [.sc (.string s)] []).via ansA =
    bif askX Tryz.prog (loopOf Tryz.f187 2) (T187 s ((0 : Nat) : Int)) [] .ret (T187 s n) [] [] then some (.sc (.bool false)) else none := by kernel_rfl

theorem loop187 (hs : s.size ≤ 1000000) : ∀ (d p : Nat), s.size - p = d → p ≤ s.size → (∃ k n : Nat, Rounds Tryz.prog (loopOf Tryz.f187 2) (.exit 0) (T187 s n) [] k (T187 s p) [] []) ∨ (∃ k n : Nat, Rounds Tryz.prog (loopOf Tryz.f187 2) .ret (T187 s n) [] k (T187 s p) [] [])
  | 0, p, hd, hp => by
    have hb := round187 s p
    rw [decide_eq_false (by omega : ¬ (p : Int) < (s.size : Int))] at hb
    have := code_tidyK mixed (evGT_ok mixed (noneT_ok _) 10) noLoop_ok hb rfl (Nat.le_refl _) (by simp)
    exact .inl ⟨0, p, .out this (by simp)⟩
  | d + 1, p, hd, hp => by
    have hb := round187 s p
    rw [decide_eq_true (by omega : (p : Int) < (s.size : Int)), decide_eq_true (by omega : (0 : Int) ≤ (p : Int) ∧ (p : Int) < (s.size : Int))] at hb
    simp only [cond_true] at hb
    rcases letter_cases (byteAt s p) (some (⟨.normal, T187 s (IntKind.wrap .i64 ((p : Int) + 1)), [], [], true⟩ : Tidy)) (some ⟨.ret, T187 s p, [], [], true⟩) with h | h
    · rw [h, wi (x := (p : Int) + 1) (by omega) (by omega)] at hb
      have := code_tidyK mixed (evGT_ok mixed (noneT_ok _) 10) noLoop_ok hb rfl (Nat.le_refl _) (by simp)
      rcases loop187 hs d (p + 1) (by omega) (by omega) with ⟨k, n, hr⟩ | ⟨k, n, hr⟩
      · exact .inl ⟨k + 1, n, .next this hr⟩
      · exact .inr ⟨k + 1, n, .next this hr⟩
    · rw [h] at hb
      have := code_tidyK mixed (evGT_ok mixed (noneT_ok _) 10) noLoop_ok hb rfl (Nat.le_refl _) (by simp)
      exact .inr ⟨0, p, .out this (by simp)⟩

theorem ident_known (hs : s.size ≤ 1000000) : Known Tryz.prog .bool 187 [.sc (.string s)] := by
  have lf : ∀ a ∈ [AV.sc (.string s)], LF a := fun a ha => by simp at ha; subst ha; exact .sc _
  have fin : ∀ (F : Option AV) (b : Bool) (lo : FuncId → LoopO), (∀ g, LoopsOk Tryz.prog (lo g)) → (evGL Tryz.prog noneT lo 10 187 [.sc (.string s)] []).via ansA = F → F = some (.sc (.bool b)) → Known Tryz.prog .bool 187 [.sc (.string s)] := by
    intro F b lo hl ht hF
    refine ⟨if b then 1 else 0, fun H => ?_⟩
    have := ctr_scL mixed (noneT_ok _) hl ht hF lf H
    cases b <;> exact this
  rcases loop187 s hs s.size 0 (by omega) (by omega) with ⟨k, n, hr⟩ | ⟨k, n, hr⟩
  · have hb := whole187 s n
    rw [askX_of hr.ok] at hb
    simp only [cond_true] at hb
    by_cases h1 : (s.size : Int) ≥ 1
    · rw [decide_eq_true h1] at hb
      by_cases h2 : (s.size : Int) ≤ 200
      · rw [decide_eq_true h2, decide_eq_true (by omega : (0 : Int) ≤ 0 ∧ (0 : Int) < (s.size : Int))] at hb
        cases h3 : decide (byteAt s 0 ≥ 48) with
        | true => rw [h3] at hb; exact fin _ _ _ (fun _ => toldX_ok noLoop_ok) hb rfl
        | false => rw [h3] at hb; exact fin _ _ _ (fun _ => toldX_ok noLoop_ok) hb rfl
      · rw [decide_eq_false h2] at hb; exact fin _ _ _ (fun _ => toldX_ok noLoop_ok) hb rfl
    · rw [decide_eq_false h1] at hb; exact fin _ _ _ (fun _ => toldX_ok noLoop_ok) hb rfl
  · have hb := whole187r s n
    rw [askX_of hr.ok] at hb
    exact fin _ _ _ (fun _ => toldX_ok noLoop_ok) hb rfl
end
end Go.Proofs.YtiipaliigpkfhaaGreat.Ab
