/- Which worths are one of any type: the program's function and the reference's, and that they agree. -/
import Derived.Test.YtiipaliigpkfhaaGreatF1
set_option linter.unusedVariables false
set_option linter.unusedSimpArgs false
set_option maxRecDepth 100000
namespace Go.Proofs.YtiipaliigpkfhaaGreat.Ab
open Go Go.RowKit Go.Proofs

theorem T_cond (b x y : Bool) : (bif b then T x else T y) = T (bif b then x else y) := by cases b <;> rfl

def narrowF (N : Int) : Int := IntKind.wrap .u64 (IntKind.wrap .i64 (IntKind.wrap .i32 N))

/-- The program's switch. -/
def sw16 (k N : Int) : Option AV :=
  bif k == 3 then T true else bif k == 4 then T true else bif k == 6 then T true else bif k == 16 then T true else bif k == 18 then T true else bif k == 1 then T true
  else bif k == 13 then T (Int.fdiv N (2 ^ 32) == 0) else bif k == 7 then T (Int.fdiv N (2 ^ 32) == 0) else bif k == 2 then T (Int.fdiv N (2 ^ 32) == 0)
  else bif k == 5 then T (narrowF N == N) else bif k == 17 then T (narrowF N == N) else bif k == 15 then T (narrowF N == N) else bif k == 14 then T (narrowF N == N)
  else bif k == 8 then T (decide (N ≤ 1)) else bif k == 9 then T (N == 0) else bif k == 12 then T (N == 0) else T false
def sw16b (k N : Int) : Bool :=
  bif k == 3 then true else bif k == 4 then true else bif k == 6 then true else bif k == 16 then true else bif k == 18 then true else bif k == 1 then true
  else bif k == 13 then (Int.fdiv N (2 ^ 32) == 0) else bif k == 7 then (Int.fdiv N (2 ^ 32) == 0) else bif k == 2 then (Int.fdiv N (2 ^ 32) == 0)
  else bif k == 5 then (narrowF N == N) else bif k == 17 then (narrowF N == N) else bif k == 15 then (narrowF N == N) else bif k == 14 then (narrowF N == N)
  else bif k == 8 then (decide (N ≤ 1)) else bif k == 9 then (N == 0) else bif k == 12 then (N == 0) else false
theorem sw16_T (k N : Int) : sw16 k N = T (sw16b k N) := by simp only [sw16, T_cond]; rfl

def s16 (k N : Int) (lb ls lu : Nat) : Bool :=
  bif (ls : Int) == 0 then (bif !((lu : Int) == 0) then false else bif k != 9 then (bif k != 12 then (bif decide ((lb : Int) > 0) then false else sw16b k N) else sw16b k N) else sw16b k N) else false

section
variable (k N : Int) (a s u : Bool) (lb ls lu : Nat) (fb fs fu : Nat → List AV)

theorem scalar16_tree : (evGT Tryz.prog noneT 10 16 [.sc (.int .i64 k), .agg [.sc (.int .u64 N), .rsl a 1 lb fb .non, .rsl s 2 ls fs .non, .rsl u 1 lu fu .non]] []).via ansA =
    bif (ls : Int) == 0 then (bif !((lu : Int) == 0) then T false else bif k != 9 then (bif k != 12 then (bif decide ((lb : Int) > 0) then T false else sw16 k N) else sw16 k N) else sw16 k N) else T false := by kernel_rfl

theorem scalar16_ctr (H : AHeap) : Ctr Tryz.prog 16 [.sc (.int .i64 k), .agg [.sc (.int .u64 N), .rsl a 1 lb fb .non, .rsl s 2 ls fs .non, .rsl u 1 lu fu .non]] (.sc (.bool (s16 k N lb ls lu))) H H [] := by
  refine ctr_sc mixed (noneT_ok _) (scalar16_tree k N a s u lb ls lu fb fs fu) ?_ (fun x hx => ?_) H
  · simp only [sw16_T, T_cond]; rfl
  · simp only [List.mem_cons, List.mem_nil_iff, or_false] at hx
    rcases hx with rfl | rfl
    · exact .sc _
    · refine .agg _ (fun x hx => ?_)
      simp only [List.mem_cons, List.mem_nil_iff, or_false] at hx
      rcases hx with rfl | rfl | rfl | rfl
      · exact .sc _
      · exact .rsl _ _ _ _ _ (by simp)
      · exact .rsl _ _ _ _ _ (by simp)
      · exact .rsl _ _ _ _ _ (by simp)

def s17 (k N : Int) (lb ls lu : Nat) : Bool :=
  bif decide ((ls : Int) > 0) then false else bif decide ((lu : Int) > 0) then false else bif k == 9 then (N == 0) else bif k == 12 then (N == 0) else bif !numericF k then false else
  bif decide ((lb : Int) > 0) then false else bif signedF k then (bif decide (IntKind.wrap .i64 N ≥ -2147483648) then decide (IntKind.wrap .i64 N < 2147483648) else false)
  else bif k == 13 then decide (N < 4294967296) else bif k == 7 then decide (N < 4294967296) else bif k == 2 then decide (N < 4294967296) else bif k == 8 then decide (N ≤ 1) else true

theorem scalar17_tree : (evGT Tryz.prog (orElse (orB1 48 numericF) (orB1 49 signedF)) 10 17 [.sc (.int .i64 k), .agg [.sc (.int .u64 N), .rsl a 1 lb fb .non, .rsl s 2 ls fs .non, .rsl u 1 lu fu .non]] []).via ansA =
    bif decide ((ls : Int) > 0) then T false else bif decide ((lu : Int) > 0) then T false else bif k == 9 then T (N == 0) else bif k == 12 then T (N == 0) else bif !numericF k then T false else
    bif decide ((lb : Int) > 0) then T false else bif signedF k then (bif decide (IntKind.wrap .i64 N ≥ -2147483648) then T (decide (IntKind.wrap .i64 N < 2147483648)) else T false)
    else bif k == 13 then T (decide (N < 4294967296)) else bif k == 7 then T (decide (N < 4294967296)) else bif k == 2 then T (decide (N < 4294967296)) else bif k == 8 then T (decide (N ≤ 1)) else T true := by kernel_rfl

theorem scalar17_ctr (H : AHeap) : Ctr Tryz.prog 17 [.sc (.int .i64 k), .agg [.sc (.int .u64 N), .rsl a 1 lb fb .non, .rsl s 2 ls fs .non, .rsl u 1 lu fu .non]] (.sc (.bool (s17 k N lb ls lu))) H H [] := by
  refine ctr_sc mixed (orElse_ok (orB1_ok numeric_ctr) (orB1_ok signed_ctr)) (scalar17_tree k N a s u lb ls lu fb fs fu) ?_ (fun x hx => ?_) H
  · simp only [T_cond]; rfl
  · simp only [List.mem_cons, List.mem_nil_iff, or_false] at hx
    rcases hx with rfl | rfl
    · exact .sc _
    · refine .agg _ (fun x hx => ?_)
      simp only [List.mem_cons, List.mem_nil_iff, or_false] at hx
      rcases hx with rfl | rfl | rfl | rfl
      · exact .sc _
      · exact .rsl _ _ _ _ _ (by simp)
      · exact .rsl _ _ _ _ _ (by simp)
      · exact .rsl _ _ _ _ _ (by simp)
end

/-! ### They agree -/
theorem narrow_eq {N : Int} (h0 : 0 ≤ N) (h1 : N < 18446744073709551616) : (narrowF N == N) = (bif decide (IntKind.wrap .i64 N ≥ -2147483648) then decide (IntKind.wrap .i64 N < 2147483648) else false) := by
  have e64 : IntKind.wrap .i64 N = if N ≥ 9223372036854775808 then N - 18446744073709551616 else N := by
    have : N % 18446744073709551616 = N := Int.emod_eq_of_lt h0 h1
    simp [IntKind.wrap, IntKind.bits, IntKind.signed, this]
  have e32 : IntKind.wrap .i32 N = if N % 4294967296 ≥ 2147483648 then N % 4294967296 - 4294967296 else N % 4294967296 := by
    simp [IntKind.wrap, IntKind.bits, IntKind.signed]
  have hw : ∀ x : Int, -2147483648 ≤ x → x < 2147483648 → IntKind.wrap .u64 (IntKind.wrap .i64 x) = if x < 0 then x + 18446744073709551616 else x := by
    intro x h2 h3
    have e1 : IntKind.wrap .i64 x = x := by
      simp only [IntKind.wrap, IntKind.bits, IntKind.signed]
      simp
      split <;> omega
    rw [e1]
    simp only [IntKind.wrap, IntKind.bits, IntKind.signed]
    simp
    split <;> omega
  have en : narrowF N = if N % 4294967296 ≥ 2147483648 then N % 4294967296 - 4294967296 + 18446744073709551616 else N % 4294967296 := by
    unfold narrowF
    rw [e32]
    split
    · rw [hw _ (by omega) (by omega), if_pos (by omega)]
    · rw [hw _ (by omega) (by omega), if_neg (by omega)]
  rw [en, e64, Bool.eq_iff_iff]
  simp only [beq_iff_eq]
  by_cases h : N ≥ 9223372036854775808
  · rw [if_pos h]
    by_cases h3 : N - 18446744073709551616 ≥ -2147483648
    · have h4 : N - 18446744073709551616 < 2147483648 := by omega
      simp [h3, h4]; omega
    · simp [h3]; omega
  · rw [if_neg h]
    have h3 : N ≥ -2147483648 := by omega
    by_cases h4 : N < 2147483648
    · simp [h3, h4]; omega
    · simp [h3, h4]; omega

theorem fdiv_eq {N : Int} (h0 : 0 ≤ N) : (Int.fdiv N (2 ^ 32) == 0) = decide (N < 4294967296) := by
  rw [Bool.eq_iff_iff]
  have : Int.fdiv N (2 ^ 32) = N / 4294967296 := by
    rw [Int.fdiv_eq_ediv_of_nonneg _ (by decide)]; rfl
  rw [this, beq_iff_eq, decide_eq_true_eq]
  constructor <;> intro h <;> omega

theorem s_eq0 {k N : Int} (b : Bool) (h0 : 0 ≤ N) (h1 : N < 18446744073709551616) : (bif k != 9 then (bif k != 12 then (bif b then false else sw16b k N) else sw16b k N) else sw16b k N) =
    bif k == 9 then (N == 0) else bif k == 12 then (N == 0) else bif !numericF k then false else
    bif b then false else bif signedF k then (bif decide (IntKind.wrap .i64 N ≥ -2147483648) then decide (IntKind.wrap .i64 N < 2147483648) else false)
    else bif k == 13 then decide (N < 4294967296) else bif k == 7 then decide (N < 4294967296) else bif k == 2 then decide (N < 4294967296) else bif k == 8 then decide (N ≤ 1) else true := by
  rw [← narrow_eq h0 h1, ← fdiv_eq h0]
  by_cases hk : 1 ≤ k ∧ k ≤ 18
  · have hk' : k = 1 ∨ k = 2 ∨ k = 3 ∨ k = 4 ∨ k = 5 ∨ k = 6 ∨ k = 7 ∨ k = 8 ∨ k = 9 ∨ k = 10 ∨ k = 11 ∨ k = 12 ∨ k = 13 ∨ k = 14 ∨ k = 15 ∨ k = 16 ∨ k = 17 ∨ k = 18 := by omega
    rcases hk' with rfl | rfl | rfl | rfl | rfl | rfl | rfl | rfl | rfl | rfl | rfl | rfl | rfl | rfl | rfl | rfl | rfl | rfl <;> cases b <;> rfl
  · have n : ∀ c : Int, 1 ≤ c → c ≤ 18 → (k == c) = false := fun c h1 h2 => by
      rw [beq_eq_false_iff_ne]; omega
    have m : numericF k = false := by simp only [numericF, Bool.or_eq_false_iff, Bool.and_eq_false_iff, decide_eq_false_iff_not]; omega
    have n9 := n 9 (by decide) (by decide)
    have n12 := n 12 (by decide) (by decide)
    simp only [m, bne, n9, n12, sw16b, n 3 (by decide) (by decide), n 4 (by decide) (by decide), n 6 (by decide) (by decide), n 16 (by decide) (by decide), n 18 (by decide) (by decide), n 1 (by decide) (by decide), n 13 (by decide) (by decide), n 7 (by decide) (by decide), n 2 (by decide) (by decide), n 5 (by decide) (by decide), n 17 (by decide) (by decide), n 15 (by decide) (by decide), n 14 (by decide) (by decide), n 8 (by decide) (by decide)]
    cases b <;> rfl

theorem s_eq {k N : Int} (lb ls lu : Nat) (h0 : 0 ≤ N) (h1 : N < 18446744073709551616) : s16 k N lb ls lu = s17 k N lb ls lu := by
  unfold s16 s17
  rw [s_eq0 _ h0 h1]
  by_cases hs : ls = 0
  · by_cases hu : lu = 0
    · subst hs hu; rfl
    · subst hs
      have h2 : ((lu : Int) == 0) = false := by rw [beq_eq_false_iff_ne]; omega
      have h3 : decide ((lu : Int) > 0) = true := by rw [decide_eq_true_eq]; omega
      rw [h2, h3]; rfl
  · have h2 : ((ls : Int) == 0) = false := by rw [beq_eq_false_iff_ne]; omega
    have h3 : decide ((ls : Int) > 0) = true := by rw [decide_eq_true_eq]; omega
    rw [h2, h3]; rfl
end Go.Proofs.YtiipaliigpkfhaaGreat.Ab
