/- How many worths a message has: some number; whether these are few: one way or the other. -/
import Derived.Test.YtiipaliigpkfhaaGreatF3
import Derived.Test.YtiipaliigpkfhaaGreatDD
set_option linter.unusedVariables false
set_option linter.unusedSimpArgs false
set_option maxRecDepth 100000
namespace Go.Proofs.YtiipaliigpkfhaaGreat.Ab
open Go Go.RowKit Go.Proofs

def SizeK (m : Msg) : Prop := ∀ all deep : Int, Known Tryz.prog (.int .i64) 45 [.agg (msgP m), .sc (.int .i64 all), .sc (.int .i64 deep)]

def i64 (n : Int) : AV := .sc (.int .i64 n)
def keep45 : List Nat := [1, 2, 6, 26, 27, 28, 33, 34, 35]
def K7 : LoopK := ⟨[1, 2, 26, 27, 28, 33, 34, 35], fun T b n => bif b then (.exit 2, (fgo 0 [2, 26, 27, 28] T).set 1 (i64 n)) else (.ret, (fgo 0 [] T).set 6 (i64 1000))⟩
def K4 : LoopK := ⟨[1, 2, 26, 27, 28], fun T b n => bif b then (.exit 0, (fgo 0 [] T).set 1 (i64 n)) else (.ret, (fgo 0 [] T).set 6 (i64 1000))⟩

section
variable (all deep : Int) (a b : Bool) (ls nv : Nat) (fs gs : Nat → List AV) (u27 u28 : Value)

def T7 (j : Int) : List AV := tmA 58 [(1, i64 all), (2, i64 deep), (26, .rsl a 2 ls fs .non), (27, .sc u27), (28, .sc u28), (33, .rsl b 4 nv gs .non), (34, i64 nv), (35, i64 j)]
def T7r (j : Int) : List AV := tmA 58 [(1, i64 all), (2, i64 deep), (6, i64 1000), (26, .rsl a 2 ls fs .non), (27, .sc u27), (28, .sc u28), (33, .rsl b 4 nv gs .non), (34, i64 nv), (35, i64 j)]

theorem body7 (vals : List Val) (j : Nat) : (evCT Tryz.prog (evGT Tryz.prog orc45 10) noLoop 10 (loopOf Tryz.f45 7) (T7 all deep a b ls nv fs (seeVals vals) u27 u28 j) []).via (tidy keep45 0) =
    bif decide ((j : Int) < nv) then (bif decide (0 ≤ (j : Int) ∧ (j : Int) < nv) then
      (bif decide (IntKind.wrap .i64 (all + 1) > 300) then some ⟨.ret, T7r (IntKind.wrap .i64 (all + 1)) deep a b ls nv fs (seeVals vals) u27 u28 j, [], [], true⟩ else
       bif decide (((vals.getD j v0).b.length : Int) > 500) then some ⟨.ret, T7r (IntKind.wrap .i64 (all + 1)) deep a b ls nv fs (seeVals vals) u27 u28 j, [], [], true⟩ else
       bif knownB Tryz.prog (.int .i64) 45 [.agg (msgP (vals.getD j v0).m), i64 (IntKind.wrap .i64 (all + 1)), i64 (IntKind.wrap .i64 (deep + 1))] then
         some ⟨.normal, T7 (knownN Tryz.prog (.int .i64) 45 [.agg (msgP (vals.getD j v0).m), i64 (IntKind.wrap .i64 (all + 1)), i64 (IntKind.wrap .i64 (deep + 1))]) deep a b ls nv fs (seeVals vals) u27 u28 (IntKind.wrap .i64 (j + 1)), [], [], true⟩ else none) else none)
    else some ⟨.exit 2, T7 all deep a b ls nv fs (seeVals vals) u27 u28 j, [], [], true⟩ := by kernel_rfl

/-- How the inner loop ends. -/
def O7 (w : Bool) (n : Int) : AExit × List AV := bif w then (.exit 2, tmA 58 [(1, i64 n), (2, i64 deep), (26, .rsl a 2 ls fs .non), (27, .sc u27), (28, .sc u28)]) else (.ret, tmA 58 [(6, i64 1000)])

theorem wrap_i64 {x : Int} (h0 : 0 ≤ x) (h1 : x < 9223372036854775808) : IntKind.wrap .i64 x = x := by
  have : x % 18446744073709551616 = x := Int.emod_eq_of_lt h0 (by omega)
  simp only [IntKind.wrap, IntKind.bits, IntKind.signed]
  simp [this]
  omega

theorem getD_mem {α : Type} {l : List α} {i : Nat} {d : α} (h : i < l.length) : l.getD i d ∈ l := by
  simp [List.getD_eq_getElem?_getD, h]

theorem loop7 (vals : List Val) (hv : ∀ x ∈ vals, SizeK x.m) (hn : vals.length ≤ maxLen) : ∀ (k j : Nat) (all : Int), vals.length - j = k → j ≤ vals.length →
    ∃ w n d, Rounds Tryz.prog (loopOf Tryz.f45 7) (O7 deep a ls fs u27 u28 w n).1 (O7 deep a ls fs u27 u28 w n).2 [] d (T7 all deep a b ls vals.length fs (seeVals vals) u27 u28 j) [] [] := by
  intro k
  induction k with
  | zero =>
    intro j all hk hj
    have h1 : decide ((j : Int) < vals.length) = false := by rw [decide_eq_false_iff_not]; omega
    have := code_tidy mixed (evGT_ok mixed orc45_ok 10) noLoop_ok (body7 all deep a b ls vals.length fs u27 u28 vals j) (by simp only [h1, cond_false]; rfl) (Nat.le_refl _)
    exact ⟨true, all, 0, .out (this.weak (fgo_wk _ 0 [1, 2, 26, 27, 28])) (by simp [O7])⟩
  | succ k ih =>
    intro j all hk hj
    have hlt : j < vals.length := by omega
    have h1 : decide ((j : Int) < vals.length) = true := by rw [decide_eq_true_eq]; omega
    have h2 : decide (0 ≤ (j : Int) ∧ (j : Int) < vals.length) = true := by rw [decide_eq_true_eq]; omega
    have hb := body7 all deep a b ls vals.length fs u27 u28 vals j
    rw [h1, h2] at hb
    simp only [cond_true] at hb
    cases h3 : decide (IntKind.wrap .i64 (all + 1) > 300) with
    | true =>
      rw [h3] at hb
      have := code_tidy mixed (evGT_ok mixed orc45_ok 10) noLoop_ok hb rfl (Nat.le_refl _)
      exact ⟨false, 0, 0, .out (this.weak (fgo_wk _ 0 [6])) (by simp [O7])⟩
    | false =>
      rw [h3] at hb
      cases h4 : decide (((vals.getD j v0).b.length : Int) > 500) with
      | true =>
        rw [h4] at hb
        have := code_tidy mixed (evGT_ok mixed orc45_ok 10) noLoop_ok hb rfl (Nat.le_refl _)
        exact ⟨false, 0, 0, .out (this.weak (fgo_wk _ 0 [6])) (by simp [O7])⟩
      | false =>
        rw [h4] at hb
        have h5 := knownB_of (hv (vals.getD j v0) (getD_mem hlt) (IntKind.wrap .i64 (all + 1)) (IntKind.wrap .i64 (deep + 1)))
        simp only [cond_false] at hb
        rw [show knownB Tryz.prog (.int .i64) 45 [.agg (msgP (vals.getD j v0).m), i64 (IntKind.wrap .i64 (all + 1)), i64 (IntKind.wrap .i64 (deep + 1))] = true from h5] at hb
        have := code_tidy mixed (evGT_ok mixed orc45_ok 10) noLoop_ok hb rfl (Nat.le_refl _)
        have hw : IntKind.wrap .i64 ((j : Int) + 1) = ((j + 1 : Nat) : Int) := by
          rw [wrap_i64 (by omega) (by have := hlt; unfold maxLen at hn; omega)]; omega
        rw [hw] at this
        obtain ⟨w, n, d, hr⟩ := ih (j + 1) _ (by omega) hlt
        exact ⟨w, n, d + 1, .next this hr⟩

/-- From the state in which it is come to. -/
theorem ends7 (vals : List Val) (hv : ∀ x ∈ vals, SizeK x.m) : Ends Tryz.prog (loopOf Tryz.f45 7) (T7 all deep a b ls vals.length fs (rowVals vals) u27 u28 0) (O7 deep a ls fs u27 u28) := by
  by_cases hn : vals.length ≤ maxLen
  · obtain ⟨w, n, d, hr⟩ := loop7 deep a b ls fs u27 u28 vals hv hn vals.length 0 all rfl (Nat.zero_le _)
    exact ⟨w, n, hr.ok.weakIn (.tm (.cons (.refl _) (.cons (.refl _) (.cons (.refl _) (.cons (.refl _) (.cons (.refl _) (.cons (.rsl (see_vals vals)) (.cons (.refl _) (.cons (.refl _) .nil)))))))))⟩
  · exact ⟨true, 0, .long (i := 33) (sz := 4) (n := vals.length) (nl := b) (el := rowVals vals) (own := .non) rfl (by omega)⟩
end

noncomputable def lo45 : LoopO := loopsEnd Tryz.prog fun i => if i = 7 then some K7 else if i = 4 then some K4 else none
theorem lo45_ok : LoopsOk Tryz.prog lo45 := loopsEnd_ok

section
variable (all deep : Int) (a : Bool) (ls : Nat) (fs : Nat → List AV)

def T4 (i : Int) : List AV := tmA 58 [(1, i64 all), (2, i64 deep), (26, .rsl a 2 ls fs .non), (27, i64 ls), (28, i64 i)]
/-- How the outer loop ends. -/
def O4 (w : Bool) (n : Int) : AExit × List AV := bif w then (.exit 0, tmA 58 [(1, i64 n)]) else (.ret, tmA 58 [(6, i64 1000)])

theorem body4 (slots : List Slot) (i : Nat) : (evCT Tryz.prog (evGT Tryz.prog orc45 10) lo45 10 (loopOf Tryz.f45 4) (T4 all deep a ls (seeSlots slots) i) []).via (tidy [1, 2, 6, 26, 27, 28] 0) =
    bif decide ((i : Int) < ls) then (bif decide (0 ≤ (i : Int) ∧ (i : Int) < ls) then
      (bif endsB Tryz.prog (loopOf Tryz.f45 7) (T7 all deep a (slots.getD i s0).vnl ls (slots.getD i s0).vals.length (seeSlots slots) (rowVals (slots.getD i s0).vals) (.int .i64 ls) (.int .i64 i) 0) (O7 deep a ls (seeSlots slots) (.int .i64 ls) (.int .i64 i)) then
        (bif endsW Tryz.prog (loopOf Tryz.f45 7) (T7 all deep a (slots.getD i s0).vnl ls (slots.getD i s0).vals.length (seeSlots slots) (rowVals (slots.getD i s0).vals) (.int .i64 ls) (.int .i64 i) 0) (O7 deep a ls (seeSlots slots) (.int .i64 ls) (.int .i64 i)) then
          some ⟨.normal, T4 (endsN Tryz.prog (loopOf Tryz.f45 7) (T7 all deep a (slots.getD i s0).vnl ls (slots.getD i s0).vals.length (seeSlots slots) (rowVals (slots.getD i s0).vals) (.int .i64 ls) (.int .i64 i) 0) (O7 deep a ls (seeSlots slots) (.int .i64 ls) (.int .i64 i))) deep a ls (seeSlots slots) (IntKind.wrap .i64 (i + 1)), [], [], true⟩
        else some ⟨.ret, tmA 58 [(6, i64 1000)], [], [], true⟩) else none) else none)
    else some ⟨.exit 0, T4 all deep a ls (seeSlots slots) i, [], [], true⟩ := by kernel_rfl

theorem loop4 (slots : List Slot) (hv : ∀ s ∈ slots, ∀ x ∈ s.vals, SizeK x.m) (hn : slots.length ≤ maxLen) : ∀ (k i : Nat) (all : Int), slots.length - i = k → i ≤ slots.length →
    ∃ w n d, Rounds Tryz.prog (loopOf Tryz.f45 4) (O4 w n).1 (O4 w n).2 [] d (T4 all deep a slots.length (seeSlots slots) i) [] [] := by
  intro k
  induction k with
  | zero =>
    intro i all hk hi
    have h1 : decide ((i : Int) < slots.length) = false := by rw [decide_eq_false_iff_not]; omega
    have := code_tidy mixed (evGT_ok mixed orc45_ok 10) lo45_ok (body4 all deep a slots.length slots i) (by simp only [h1, cond_false]; rfl) (Nat.le_refl _)
    exact ⟨true, all, 0, .out (this.weak (fgo_wk _ 0 [1])) (by simp [O4])⟩
  | succ k ih =>
    intro i all hk hi
    have hlt : i < slots.length := by omega
    have h1 : decide ((i : Int) < slots.length) = true := by rw [decide_eq_true_eq]; omega
    have h2 : decide (0 ≤ (i : Int) ∧ (i : Int) < slots.length) = true := by rw [decide_eq_true_eq]; omega
    have hb := body4 all deep a slots.length slots i
    rw [h1, h2] at hb
    simp only [cond_true] at hb
    rw [endsB_of (ends7 all deep a (slots.getD i s0).vnl slots.length (seeSlots slots) (.int .i64 slots.length) (.int .i64 i) (slots.getD i s0).vals (hv (slots.getD i s0) (getD_mem hlt)))] at hb
    simp only [cond_true] at hb
    cases h3 : endsW Tryz.prog (loopOf Tryz.f45 7) (T7 all deep a (slots.getD i s0).vnl slots.length (slots.getD i s0).vals.length (seeSlots slots) (rowVals (slots.getD i s0).vals) (.int .i64 slots.length) (.int .i64 i) 0) (O7 deep a slots.length (seeSlots slots) (.int .i64 slots.length) (.int .i64 i)) with
    | false =>
      rw [h3] at hb
      have := code_tidy mixed (evGT_ok mixed orc45_ok 10) lo45_ok hb rfl (Nat.le_refl _)
      exact ⟨false, 0, 0, .out this (by simp [O4])⟩
    | true =>
      rw [h3] at hb
      have := code_tidy mixed (evGT_ok mixed orc45_ok 10) lo45_ok hb rfl (Nat.le_refl _)
      have hw : IntKind.wrap .i64 ((i : Int) + 1) = ((i + 1 : Nat) : Int) := by
        rw [wrap_i64 (by omega) (by have := hlt; unfold maxLen at hn; omega)]; omega
      rw [hw] at this
      obtain ⟨w, n, d, hr⟩ := ih (i + 1) _ (by omega) hlt
      exact ⟨w, n, d + 1, .next this hr⟩

theorem ends4 (slots : List Slot) (hv : ∀ s ∈ slots, ∀ x ∈ s.vals, SizeK x.m) : Ends Tryz.prog (loopOf Tryz.f45 4) (T4 all deep a slots.length (rowSlots slots) 0) O4 := by
  by_cases hn : slots.length ≤ maxLen
  · obtain ⟨w, n, d, hr⟩ := loop4 deep a slots hv hn slots.length 0 all rfl (Nat.zero_le _)
    exact ⟨w, n, hr.ok.weakIn (.tm (.cons (.refl _) (.cons (.refl _) (.cons (.rsl (see_slots slots)) (.cons (.refl _) (.cons (.refl _) .nil))))))⟩
  · exact ⟨true, 0, .long (i := 26) (sz := 2) (n := slots.length) (nl := a) (el := rowSlots slots) (own := .non) rfl (by omega)⟩
end

theorem size_tree (m : Msg) (all deep : Int) : (evGL Tryz.prog noneT (fun _ => lo45) 10 45 [.agg (msgP m), i64 all, i64 deep] []).via ansA =
    bif decide (deep > 70) then some (i64 1000) else bif decide ((m.unknown.length : Int) > 500) then some (i64 1000) else bif decide ((m.slots.length : Int) > 300) then some (i64 1000) else
    bif endsB Tryz.prog (loopOf Tryz.f45 4) (T4 all deep m.snl m.slots.length (rowSlots m.slots) 0) O4 then
      (bif endsW Tryz.prog (loopOf Tryz.f45 4) (T4 all deep m.snl m.slots.length (rowSlots m.slots) 0) O4 then some (i64 (endsN Tryz.prog (loopOf Tryz.f45 4) (T4 all deep m.snl m.slots.length (rowSlots m.slots) 0) O4)) else some (i64 1000)) else none := by kernel_rfl

theorem lf_msg (m : Msg) : ∀ x ∈ msgP m, LF x := by
  intro x hx
  simp only [msgP, List.mem_cons, List.mem_nil_iff, or_false] at hx
  rcases hx with rfl | rfl
  · exact .rsl _ _ _ _ _ (by simp)
  · exact .rsl _ _ _ _ _ (by simp)

theorem size_known (m : Msg) (hv : ∀ s ∈ m.slots, ∀ x ∈ s.vals, SizeK x.m) : SizeK m := by
  intro all deep
  have hargs : ∀ x ∈ [AV.agg (msgP m), i64 all, i64 deep], LF x := by
    intro x hx
    simp only [List.mem_cons, List.mem_nil_iff, or_false] at hx
    rcases hx with rfl | rfl | rfl
    · exact .agg _ (lf_msg m)
    · exact .sc _
    · exact .sc _
  have hb := size_tree m all deep
  rw [endsB_of (ends4 all deep m.snl m.slots hv)] at hb
  have done : ∀ n : Int, (evGL Tryz.prog noneT (fun _ => lo45) 10 45 [.agg (msgP m), i64 all, i64 deep] []).via ansA = some (i64 n) → Known Tryz.prog (.int .i64) 45 [.agg (msgP m), i64 all, i64 deep] := fun n h =>
    ⟨n, fun H => ctr_scL mixed (noneT_ok _) (fun _ => lo45_ok) h rfl hargs H⟩
  cases h1 : decide (deep > 70) with
  | true => rw [h1] at hb; exact done _ hb
  | false =>
    cases h2 : decide ((m.unknown.length : Int) > 500) with
    | true => rw [h1, h2] at hb; exact done _ hb
    | false =>
      cases h3 : decide ((m.slots.length : Int) > 300) with
      | true => rw [h1, h2, h3] at hb; exact done _ hb
      | false =>
        cases h4 : endsW Tryz.prog (loopOf Tryz.f45 4) (T4 all deep m.snl m.slots.length (rowSlots m.slots) 0) O4 with
        | true => rw [h1, h2, h3, h4] at hb; exact done _ hb
        | false => rw [h1, h2, h3, h4] at hb; exact done _ hb

mutual
theorem sizeK_msg : ∀ m : Msg, SizeK m
  | .mk a s b u => size_known (.mk a s b u) (sizeK_slots s)
theorem sizeK_slots : ∀ (l : List Slot), ∀ s ∈ l, ∀ x ∈ s.vals, SizeK x.m
  | [], s, h => by cases h
  | .mk n a v :: r, s, h => fun x hx => by
    rcases List.mem_cons.1 h with rfl | h
    · exact sizeK_vals v x hx
    · exact sizeK_slots r s h x hx
theorem sizeK_vals : ∀ (l : List Val), ∀ x ∈ l, SizeK x.m
  | [], x, h => by cases h
  | .mk n a b m :: r, x, h => by
    rcases List.mem_cons.1 h with rfl | h
    · exact sizeK_msg m
    · exact sizeK_vals r x h
end

noncomputable def fewF (m : Msg) : Bool := decide (knownN Tryz.prog (.int .i64) 45 [.agg (msgP m), i64 0, i64 0] ≤ 300)
theorem few_tree (m : Msg) : (evGT Tryz.prog orc45 10 15 [.agg (msgP m)] []).via ansA = bif knownB Tryz.prog (.int .i64) 45 [.agg (msgP m), i64 0, i64 0] then T (fewF m) else none := by kernel_rfl
theorem few_ctr (m : Msg) (H : AHeap) : Ctr Tryz.prog 15 [.agg (msgP m)] (.sc (.bool (fewF m))) H H [] := by
  have hb := few_tree m
  rw [show knownB Tryz.prog (.int .i64) 45 [.agg (msgP m), i64 0, i64 0] = true from knownB_of (sizeK_msg m 0 0)] at hb
  exact ctr_sc mixed orc45_ok hb rfl (fun x hx => by simp at hx; subst hx; exact .agg _ (lf_msg m)) H
end Go.Proofs.YtiipaliigpkfhaaGreat.Ab
