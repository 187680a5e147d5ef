/- How deep a message is: the reference's function computes deepM. -/
import Derived.Test.YtiipaliigpkfhaaGreatG1
set_option linter.unusedVariables false
set_option linter.unusedSimpArgs false
set_option maxRecDepth 100000
namespace Go.Proofs.YtiipaliigpkfhaaGreat.Ab
open Go Go.RowKit Go.Proofs

theorem deepV_cons (x : Val) (r : List Val) (a d : Int) : deepV (x :: r) a d =
    bif decide ((bif decide ((x.m.slots.length : Int) > 0) then mx d (deepM x.m (up a)) else bif decide ((x.m.unknown.length : Int) > 0) then mx d (deepM x.m (up a)) else mx d a) > 64) then
      (false, (bif decide ((x.m.slots.length : Int) > 0) then mx d (deepM x.m (up a)) else bif decide ((x.m.unknown.length : Int) > 0) then mx d (deepM x.m (up a)) else mx d a))
    else deepV r a (bif decide ((x.m.slots.length : Int) > 0) then mx d (deepM x.m (up a)) else bif decide ((x.m.unknown.length : Int) > 0) then mx d (deepM x.m (up a)) else mx d a) := by
  cases x; simp only [deepV, Val.m]; rfl
theorem deepS_cons (s : Slot) (r : List Slot) (a d : Int) : deepS (s :: r) a d = bif (deepV s.vals a d).1 then deepS r a (deepV s.vals a d).2 else (false, (deepV s.vals a d).2) := by
  cases s; simp only [deepS, Slot.vals]
theorem deepM_eq (m : Msg) (a : Int) : deepM m a = bif decide (a > 64) then a else (deepS m.slots a a).2 := by
  cases m; simp only [deepM, Msg.slots]

theorem drop_cons {α : Type} {l : List α} {j : Nat} (d : α) (h : j < l.length) : l.drop j = l.getD j d :: l.drop (j + 1) := by
  rw [List.drop_eq_getElem_cons h]
  simp [List.getD_eq_getElem?_getD, h]

section
variable (a d : Int) (sl b : Bool) (ls nv : Nat) (fs gs : Nat → List AV) (i : Int)

namespace Deep79
def T8 (j : Int) : List AV := tmA 56 [(1, i64 a), (5, i64 d), (15, .rsl sl 2 ls fs .non), (16, i64 ls), (17, i64 i), (22, .rsl b 4 nv gs .non), (23, i64 nv), (24, i64 j)]
def T8r (j : Int) : List AV := tmA 56 [(1, i64 a), (4, i64 d), (5, i64 d), (15, .rsl sl 2 ls fs .non), (16, i64 ls), (17, i64 i), (22, .rsl b 4 nv gs .non), (23, i64 nv), (24, i64 j)]
def O8 (w : Bool) (n : Int) : AExit × List AV := bif w then (.exit 2, tmA 56 [(1, i64 a), (5, i64 n), (15, .rsl sl 2 ls fs .non), (16, i64 ls), (17, i64 i)]) else (.ret, tmA 56 [(4, i64 n)])
def ks8 : List Nat := [1, 5, 15, 16, 17, 22, 23, 24]
def out8 (d : Int) (j : Nat) : Option Tidy := bif decide (d > 64) then some ⟨.ret, T8r a d sl b ls nv fs gs i j, [], [], true⟩ else some ⟨.normal, T8 a d sl b ls nv fs gs i (IntKind.wrap .i64 (j + 1)), [], [], true⟩

theorem body8 (vals : List Val) (j : Nat) (u : Int) : (evCT Tryz.prog (evGT Tryz.prog noneT 10) (told Tryz.prog [] [⟨45, 0, i64 u⟩]) 10 (loopOf Tryz.f79 8) (T8 a d sl b ls nv fs (seeVals vals) i j) []).via (tidy [1, 4, 5, 15, 16, 17, 22, 23, 24] 0) =
    bif decide ((j : Int) < nv) then (bif decide (0 ≤ (j : Int) ∧ (j : Int) < nv) then
      (bif decide (((vals.getD j v0).m.slots.length : Int) > 0) then
        (bif askCall Tryz.prog 79 [.agg (msgP (vals.getD j v0).m), i64 (up a)] [] (i64 u) then out8 a sl b ls nv fs (seeVals vals) i (mx d u) j else none)
       else bif decide (((vals.getD j v0).m.unknown.length : Int) > 0) then
        (bif askCall Tryz.prog 79 [.agg (msgP (vals.getD j v0).m), i64 (up a)] [] (i64 u) then out8 a sl b ls nv fs (seeVals vals) i (mx d u) j else none)
       else out8 a sl b ls nv fs (seeVals vals) i (mx d a) j) else none)
    else some ⟨.exit 2, T8 a d sl b ls nv fs (seeVals vals) i j, [], [], true⟩ := by kernel_rfl
end Deep79
end

section
variable (a : Int) (sl b : Bool) (ls : Nat) (fs : Nat → List AV) (i : Int)
namespace Deep79
/-- What is shown of the messages within. -/
def Is (m : Msg) : Prop := ∀ a : Int, Ctr Tryz.prog 79 [.agg (msgP m), i64 a] (i64 (deepM m a)) [] [] []

theorem loop8 (vals : List Val) (hv : ∀ x ∈ vals, Is x.m) (hn : vals.length ≤ maxLen) : ∀ (k j : Nat) (d : Int), vals.length - j = k → j ≤ vals.length →
    ∃ n, Rounds Tryz.prog (loopOf Tryz.f79 8) (O8 a sl ls fs i (deepV (vals.drop j) a d).1 (deepV (vals.drop j) a d).2).1 (O8 a sl ls fs i (deepV (vals.drop j) a d).1 (deepV (vals.drop j) a d).2).2 [] n (T8 a d sl b ls vals.length fs (seeVals vals) i j) [] [] := by
  intro k
  induction k with
  | zero =>
    intro j d hk hj
    have h1 : decide ((j : Int) < vals.length) = false := by rw [decide_eq_false_iff_not]; omega
    have := code_tidy mixed (evGT_ok mixed (noneT_ok _) 10) told_ok (body8 a d sl b ls vals.length fs i vals j 0) (by simp only [h1, cond_false]; rfl) (Nat.le_refl _)
    have e : vals.drop j = [] := List.drop_eq_nil_of_le (by omega)
    rw [e]
    exact ⟨0, .out (this.weak (fgo_wk _ 0 [1, 5, 15, 16, 17])) (by simp [O8, deepV])⟩
  | succ k ih =>
    intro j d hk hj
    have hlt : j < vals.length := by omega
    have h1 : decide ((j : Int) < vals.length) = true := by rw [decide_eq_true_eq]; omega
    have h2 : decide (0 ≤ (j : Int) ∧ (j : Int) < vals.length) = true := by rw [decide_eq_true_eq]; omega
    have hb := body8 a d sl b ls vals.length fs i vals j (deepM (vals.getD j v0).m (up a))
    rw [h1, h2, askCall_of (hv (vals.getD j v0) (getD_mem hlt) (up a))] at hb
    simp only [cond_true] at hb
    -- the number that comes of this worth
    have fin : ∀ d' : Int, (evCT Tryz.prog (evGT Tryz.prog noneT 10) (told Tryz.prog [] [⟨45, 0, i64 (deepM (vals.getD j v0).m (up a))⟩]) 10 (loopOf Tryz.f79 8) (T8 a d sl b ls vals.length fs (seeVals vals) i j) []).via (tidy [1, 4, 5, 15, 16, 17, 22, 23, 24] 0) = out8 a sl b ls vals.length fs (seeVals vals) i d' j →
        deepV (vals.drop j) a d = (bif decide (d' > 64) then (false, d') else deepV (vals.drop (j + 1)) a d') →
        ∃ n, Rounds Tryz.prog (loopOf Tryz.f79 8) (O8 a sl ls fs i (deepV (vals.drop j) a d).1 (deepV (vals.drop j) a d).2).1 (O8 a sl ls fs i (deepV (vals.drop j) a d).1 (deepV (vals.drop j) a d).2).2 [] n (T8 a d sl b ls vals.length fs (seeVals vals) i j) [] [] := by
      intro d' hb he
      rw [he]
      unfold out8 at hb
      cases h3 : decide (d' > 64) with
      | true =>
        rw [h3] at hb
        have := code_tidy mixed (evGT_ok mixed (noneT_ok _) 10) told_ok hb rfl (Nat.le_refl _)
        exact ⟨0, .out (this.weak (fgo_wk _ 0 [4])) (by simp [O8])⟩
      | false =>
        rw [h3] at hb
        have := code_tidy mixed (evGT_ok mixed (noneT_ok _) 10) told_ok hb rfl (Nat.le_refl _)
        have hw : IntKind.wrap .i64 ((j : Int) + 1) = ((j + 1 : Nat) : Int) := by
          rw [wrap_i64 (by omega) (by have := hlt; unfold maxLen at hn; omega)]; omega
        rw [hw] at this
        obtain ⟨n, hr⟩ := ih (j + 1) d' (by omega) hlt
        exact ⟨n + 1, .next this hr⟩
    have hc := deepV_cons (vals.getD j v0) (vals.drop (j + 1)) a d
    rw [← drop_cons v0 hlt] at hc
    cases h4 : decide (((vals.getD j v0).m.slots.length : Int) > 0) with
    | true => rw [h4] at hb hc; exact fin _ hb hc
    | false =>
      cases h5 : decide (((vals.getD j v0).m.unknown.length : Int) > 0) with
      | true => rw [h4, h5] at hb hc; exact fin _ hb hc
      | false => rw [h4, h5] at hb hc; exact fin _ hb hc

theorem ends8 (vals : List Val) (hv : ∀ x ∈ vals, Is x.m) (d : Int) : CodeOk Tryz.prog (.loop (loopOf Tryz.f79 8)) (T8 a d sl b ls vals.length fs (rowVals vals) i 0) [] (O8 a sl ls fs i (deepV vals a d).1 (deepV vals a d).2).1 (O8 a sl ls fs i (deepV vals a d).1 (deepV vals a d).2).2 [] [] := by
  by_cases hn : vals.length ≤ maxLen
  · obtain ⟨n, hr⟩ := loop8 a sl b ls fs i vals hv hn vals.length 0 d rfl (Nat.zero_le _)
    exact hr.ok.weakIn (.tm (.cons (.refl _) (.cons (.refl _) (.cons (.refl _) (.cons (.refl _) (.cons (.refl _) (.cons (.rsl (see_vals vals)) (.cons (.refl _) (.cons (.refl _) .nil)))))))))
  · exact .long (i := 22) (sz := 4) (n := vals.length) (nl := b) (el := rowVals vals) (own := .non) rfl (by omega)

def T5 (a d : Int) (sl : Bool) (ls : Nat) (fs : Nat → List AV) (i : Int) : List AV := tmA 56 [(1, i64 a), (5, i64 d), (15, .rsl sl 2 ls fs .non), (16, i64 ls), (17, i64 i)]
def O5 (w : Bool) (n : Int) : AExit × List AV := bif w then (.exit 0, tmA 56 [(5, i64 n)]) else (.ret, tmA 56 [(4, i64 n)])

theorem body5 (slots : List Slot) (d : Int) (i : Nat) (w : Bool) (n : Int) : (evCT Tryz.prog (evGT Tryz.prog noneT 10) (told Tryz.prog [⟨8, 0, ks8, (O8 a sl ls (seeSlots slots) i w n).1, (O8 a sl ls (seeSlots slots) i w n).2⟩] []) 10 (loopOf Tryz.f79 5) (T5 a d sl ls (seeSlots slots) i) []).via (tidy [1, 4, 5, 15, 16, 17] 0) =
    bif decide ((i : Int) < ls) then (bif decide (0 ≤ (i : Int) ∧ (i : Int) < ls) then
      (bif askL Tryz.prog (loopOf Tryz.f79 8) (T8 a d sl (slots.getD i s0).vnl ls (slots.getD i s0).vals.length (seeSlots slots) (rowVals (slots.getD i s0).vals) i 0) [] (O8 a sl ls (seeSlots slots) i w n).1 (O8 a sl ls (seeSlots slots) i w n).2 then
        (bif w then some ⟨.normal, T5 a n sl ls (seeSlots slots) (IntKind.wrap .i64 (i + 1)), [], [], true⟩ else some ⟨.ret, tmA 56 [(4, i64 n)], [], [], true⟩) else none) else none)
    else some ⟨.exit 0, T5 a d sl ls (seeSlots slots) i, [], [], true⟩ := by cases w <;> kernel_rfl

theorem loop5 (slots : List Slot) (hv : ∀ s ∈ slots, ∀ x ∈ s.vals, Is x.m) (hn : slots.length ≤ maxLen) : ∀ (k i : Nat) (d : Int), slots.length - i = k → i ≤ slots.length →
    ∃ n, Rounds Tryz.prog (loopOf Tryz.f79 5) (O5 (deepS (slots.drop i) a d).1 (deepS (slots.drop i) a d).2).1 (O5 (deepS (slots.drop i) a d).1 (deepS (slots.drop i) a d).2).2 [] n (T5 a d sl slots.length (seeSlots slots) i) [] [] := by
  intro k
  induction k with
  | zero =>
    intro i d hk hi
    have h1 : decide ((i : Int) < slots.length) = false := by rw [decide_eq_false_iff_not]; omega
    have := code_tidy mixed (evGT_ok mixed (noneT_ok _) 10) told_ok (body5 a sl slots.length slots d i true 0) (by simp only [h1, cond_false]; rfl) (Nat.le_refl _)
    have e : slots.drop i = [] := List.drop_eq_nil_of_le (by omega)
    rw [e]
    exact ⟨0, .out (this.weak (fgo_wk _ 0 [5])) (by simp [O5, deepS])⟩
  | succ k ih =>
    intro i d hk hi
    have hlt : i < slots.length := by omega
    have h1 : decide ((i : Int) < slots.length) = true := by rw [decide_eq_true_eq]; omega
    have h2 : decide (0 ≤ (i : Int) ∧ (i : Int) < slots.length) = true := by rw [decide_eq_true_eq]; omega
    have hb := body5 a sl slots.length slots d i (deepV (slots.getD i s0).vals a d).1 (deepV (slots.getD i s0).vals a d).2
    rw [h1, h2, askL_of (ends8 a sl (slots.getD i s0).vnl slots.length (seeSlots slots) i (slots.getD i s0).vals (hv (slots.getD i s0) (getD_mem hlt)) d)] at hb
    simp only [cond_true] at hb
    have hc := deepS_cons (slots.getD i s0) (slots.drop (i + 1)) a d
    rw [← drop_cons s0 hlt] at hc
    rw [hc]
    cases h3 : (deepV (slots.getD i s0).vals a d).1 with
    | false =>
      rw [h3] at hb
      have := code_tidy mixed (evGT_ok mixed (noneT_ok _) 10) told_ok hb rfl (Nat.le_refl _)
      exact ⟨0, .out this (by simp [O5])⟩
    | true =>
      rw [h3] at hb
      have := code_tidy mixed (evGT_ok mixed (noneT_ok _) 10) told_ok hb rfl (Nat.le_refl _)
      have hw : IntKind.wrap .i64 ((i : Int) + 1) = ((i + 1 : Nat) : Int) := by
        rw [wrap_i64 (by omega) (by have := hlt; unfold maxLen at hn; omega)]; omega
      rw [hw] at this
      obtain ⟨n, hr⟩ := ih (i + 1) (deepV (slots.getD i s0).vals a d).2 (by omega) hlt
      exact ⟨n + 1, .next this hr⟩

theorem ends5 (slots : List Slot) (hv : ∀ s ∈ slots, ∀ x ∈ s.vals, Is x.m) (d : Int) : CodeOk Tryz.prog (.loop (loopOf Tryz.f79 5)) (T5 a d sl slots.length (rowSlots slots) 0) [] (O5 (deepS slots a d).1 (deepS slots a d).2).1 (O5 (deepS slots a d).1 (deepS slots a d).2).2 [] [] := by
  by_cases hn : slots.length ≤ maxLen
  · obtain ⟨n, hr⟩ := loop5 a sl slots hv hn slots.length 0 d rfl (Nat.zero_le _)
    exact hr.ok.weakIn (.tm (.cons (.refl _) (.cons (.refl _) (.cons (.rsl (see_slots slots)) (.cons (.refl _) (.cons (.refl _) .nil))))))
  · exact .long (i := 15) (sz := 2) (n := slots.length) (nl := sl) (el := rowSlots slots) (own := .non) rfl (by omega)

theorem tree (m : Msg) (w : Bool) (n : Int) : (evGL Tryz.prog noneT (fun _ => told Tryz.prog [⟨5, 0, [1, 5, 15, 16, 17], (O5 w n).1, (O5 w n).2⟩] []) 10 79 [.agg (msgP m), i64 a] []).via ansA =
    bif decide (a > 64) then some (i64 a) else bif askL Tryz.prog (loopOf Tryz.f79 5) (T5 a a m.snl m.slots.length (rowSlots m.slots) 0) [] (O5 w n).1 (O5 w n).2 then some (i64 n) else none := by cases w <;> kernel_rfl

theorem is_of (m : Msg) (hv : ∀ s ∈ m.slots, ∀ x ∈ s.vals, Is x.m) : Is m := by
  intro a
  have hb := tree a m (deepS m.slots a a).1 (deepS m.slots a a).2
  rw [askL_of (ends5 a m.snl m.slots hv a)] at hb
  refine ctr_scL mixed (noneT_ok _) (fun _ => told_ok) hb ?_ (fun x hx => ?_) []
  · rw [deepM_eq]; cases decide (a > 64) <;> rfl
  · simp only [List.mem_cons, List.mem_nil_iff, or_false] at hx
    rcases hx with rfl | rfl
    · exact .agg _ (lf_msg m)
    · exact .sc _

mutual
theorem is_msg : ∀ m : Msg, Is m
  | .mk a s b u => is_of (.mk a s b u) (is_slots s)
theorem is_slots : ∀ (l : List Slot), ∀ s ∈ l, ∀ x ∈ s.vals, Is x.m
  | [], s, h => by cases h
  | .mk n a v :: r, s, h => fun x hx => by
    rcases List.mem_cons.1 h with rfl | h
    · exact is_vals v x hx
    · exact is_slots r s h x hx
theorem is_vals : ∀ (l : List Val), ∀ x ∈ l, Is x.m
  | [], x, h => by cases h
  | .mk n a b m :: r, x, h => by
    rcases List.mem_cons.1 h with rfl | h
    · exact is_msg m
    · exact is_vals r x h
end

theorem tree33 (m : Msg) (u : Int) : (evGL Tryz.prog noneT (fun _ => told Tryz.prog [] [⟨5, 0, i64 u⟩]) 10 33 [.agg (msgP m)] []).via ansA =
    bif askCall Tryz.prog 79 [.agg (msgP m), i64 1] [] (i64 u) then (bif decide (u ≤ 64) then some (i64 u) else some (i64 100)) else none := by kernel_rfl
end Deep79
end

theorem deepR_ctr (m : Msg) (H : AHeap) : Ctr Tryz.prog 33 [.agg (msgP m)] (i64 (deepR m)) H H [] := by
  have hb := Deep79.tree33 m (deepM m 1)
  rw [askCall_of (Deep79.is_msg m 1)] at hb
  refine ctr_scL mixed (noneT_ok _) (fun _ => told_ok) hb ?_ (fun x hx => by simp at hx; subst hx; exact .agg _ (lf_msg m)) H
  unfold deepR
  cases decide (deepM m 1 ≤ 64) <;> rfl
end Go.Proofs.YtiipaliigpkfhaaGreat.Ab
