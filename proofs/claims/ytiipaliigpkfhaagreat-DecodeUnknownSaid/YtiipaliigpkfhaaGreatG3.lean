/- How deep a message is: the program's function computes downM. -/
import Derived.Test.YtiipaliigpkfhaaGreatG2
set_option linter.unusedVariables false
set_option linter.unusedSimpArgs false
set_option maxRecDepth 100000
namespace Go.Proofs.YtiipaliigpkfhaaGreat.Ab
open Go Go.RowKit Go.Proofs

theorem downV_cons (x : Val) (r : List Val) (a d : Int) : downV (x :: r) a d =
    bif decide (d > 64) then (false, d) else downV r a (bif !bareN x.m.slots.length x.m.unknown.length then mx d (downM x.m (up a)) else d) := by
  cases x; simp only [downV, Val.m]
theorem downS_cons (s : Slot) (r : List Slot) (a d : Int) : downS (s :: r) a d = bif (downV s.vals a d).1 then downS r a (downV s.vals a d).2 else (false, (downV s.vals a d).2) := by
  cases s; simp only [downS, Slot.vals]
theorem downM_eq (m : Msg) (a : Int) : downM m a = (downS m.slots a a).2 := by
  cases m; simp only [downM, Msg.slots]

/-! ### bare -/
theorem bare_tree (s u : Bool) (ls lu : Nat) (fs fu : Nat → List AV) : (evGT Tryz.prog noneT 10 46 [.agg [.rsl s 2 ls fs .non, .rsl u 1 lu fu .non]] []).via ansA =
    bif (ls : Int) == 0 then T ((lu : Int) == 0) else T false := by kernel_rfl
theorem bare_ctr (s u : Bool) (ls lu : Nat) (fs fu : Nat → List AV) (H : AHeap) : Ctr Tryz.prog 46 [.agg [.rsl s 2 ls fs .non, .rsl u 1 lu fu .non]] (.sc (.bool (bareN ls lu))) H H [] := by
  refine ctr_sc mixed (noneT_ok _) (bare_tree s u ls lu fs fu) ?_ (fun x hx => ?_) H
  · unfold bareN; rw [T_cond]; rfl
  · simp only [List.mem_cons, List.mem_nil_iff, or_false] at hx
    subst hx
    refine .agg _ (fun x hx => ?_)
    simp only [List.mem_cons, List.mem_nil_iff, or_false] at hx
    rcases hx with rfl | rfl
    · exact .rsl _ _ _ _ _ (by simp)
    · exact .rsl _ _ _ _ _ (by simp)
def orBare : OrcT := fun g args H => if g = 46 then match args with
    | [.agg [.rsl _ 2 ls _ .non, .rsl _ 1 lu _ .non]] => some (.leaf (.sc (.bool (bareN ls lu)), H, []))
    | _ => none
  else none
theorem orBare_ok : OrcOk Tryz.prog orBare := by
  intro g args H t r ho hr
  unfold orBare at ho
  split at ho
  · rename_i hg
    subst hg
    split at ho
    · cases ho; rw [Tree.sel_leaf hr]; exact bare_ctr _ _ _ _ _ _ H
    · cases ho
  · cases ho

section
variable (m0 : Msg) (a d : Int) (sl b : Bool) (ls nv : Nat) (fs gs : Nat → List AV) (i : Int)

namespace Down78
/-- The heap that the closure sees: a message, itself. -/
def HX : AHeap := [.cells (msgP m0), .cells [.fn (.func 78) [] [.ptr 1 0]]]
def T6 (j : Int) : List AV := tmA 44 [(1, i64 a), (2, .ptr 1 0), (6, i64 d), (13, .rsl sl 2 ls fs .non), (14, i64 ls), (15, i64 i), (20, .rsl b 4 nv gs .non), (21, i64 nv), (22, i64 j)]
def T6r (j : Int) : List AV := tmA 44 [(1, i64 a), (2, .ptr 1 0), (5, i64 d), (6, i64 d), (13, .rsl sl 2 ls fs .non), (14, i64 ls), (15, i64 i), (20, .rsl b 4 nv gs .non), (21, i64 nv), (22, i64 j)]
def O6 (w : Bool) (n : Int) : AExit × List AV := bif w then (.exit 2, tmA 44 [(1, i64 a), (2, .ptr 1 0), (6, i64 n), (13, .rsl sl 2 ls fs .non), (14, i64 ls), (15, i64 i)]) else (.ret, tmA 44 [(5, i64 n)])
def ks6 : List Nat := [1, 2, 6, 13, 14, 15, 20, 21, 22]

theorem body6 (vals : List Val) (j : Nat) (u : Int) : (evCT Tryz.prog (evGT Tryz.prog orBare 10) (told Tryz.prog [] [⟨39, 2, i64 u⟩]) 10 (loopOf Tryz.f78 6) (T6 a d sl b ls nv fs (seeVals vals) i j) (HX m0)).via (tidy [1, 2, 5, 6, 13, 14, 15, 20, 21, 22] 2) =
    bif decide ((j : Int) < nv) then (bif decide (0 ≤ (j : Int) ∧ (j : Int) < nv) then
      (bif decide (d > 64) then some ⟨.ret, T6r a d sl b ls nv fs (seeVals vals) i j, HX m0, [], true⟩ else
       bif !bareN (vals.getD j v0).m.slots.length (vals.getD j v0).m.unknown.length then
        (bif askCall Tryz.prog 78 [.agg (msgP (vals.getD j v0).m), i64 (up a), .ptr 1 0] (HX m0) (i64 u) then some ⟨.normal, T6 a (mx d u) sl b ls nv fs (seeVals vals) i (IntKind.wrap .i64 (j + 1)), HX m0, [], true⟩ else none)
       else some ⟨.normal, T6 a d sl b ls nv fs (seeVals vals) i (IntKind.wrap .i64 (j + 1)), HX m0, [], true⟩) else none)
    else some ⟨.exit 2, T6 a d sl b ls nv fs (seeVals vals) i j, HX m0, [], true⟩ := by kernel_rfl
end Down78
end

section
variable (m0 : Msg) (a : Int) (sl b : Bool) (ls : Nat) (fs : Nat → List AV) (i : Int)
namespace Down78
/-- What is shown of the messages within. -/
def Is (m0 : Msg) (m : Msg) : Prop := ∀ a : Int, Ctr Tryz.prog 78 [.agg (msgP m), i64 a, .ptr 1 0] (i64 (downM m a)) (HX m0) (HX m0) []

theorem loop6 (vals : List Val) (hv : ∀ x ∈ vals, Is m0 x.m) (hn : vals.length ≤ maxLen) : ∀ (k j : Nat) (d : Int), vals.length - j = k → j ≤ vals.length →
    ∃ n, Rounds Tryz.prog (loopOf Tryz.f78 6) (O6 a sl ls fs i (downV (vals.drop j) a d).1 (downV (vals.drop j) a d).2).1 (O6 a sl ls fs i (downV (vals.drop j) a d).1 (downV (vals.drop j) a d).2).2 (HX m0) n (T6 a d sl b ls vals.length fs (seeVals vals) i j) (HX m0) [] := by
  intro k
  induction k with
  | zero =>
    intro j d hk hj
    have h1 : decide ((j : Int) < vals.length) = false := by rw [decide_eq_false_iff_not]; omega
    have := code_tidy mixed (evGT_ok mixed orBare_ok 10) told_ok (body6 m0 a d sl b ls vals.length fs i vals j 0) (by simp only [h1, cond_false]; rfl) (Nat.le_refl _)
    have e : vals.drop j = [] := List.drop_eq_nil_of_le (by omega)
    rw [e]
    exact ⟨0, .out (this.weak (fgo_wk _ 0 [1, 2, 6, 13, 14, 15])) (by simp [O6, downV])⟩
  | succ k ih =>
    intro j d hk hj
    have hlt : j < vals.length := by omega
    have h1 : decide ((j : Int) < vals.length) = true := by rw [decide_eq_true_eq]; omega
    have h2 : decide (0 ≤ (j : Int) ∧ (j : Int) < vals.length) = true := by rw [decide_eq_true_eq]; omega
    have hb := body6 m0 a d sl b ls vals.length fs i vals j (downM (vals.getD j v0).m (up a))
    rw [h1, h2, askCall_of (hv (vals.getD j v0) (getD_mem hlt) (up a))] at hb
    simp only [cond_true] at hb
    have hc := downV_cons (vals.getD j v0) (vals.drop (j + 1)) a d
    rw [← drop_cons v0 hlt] at hc
    have hw : IntKind.wrap .i64 ((j : Int) + 1) = ((j + 1 : Nat) : Int) := by
      rw [wrap_i64 (by omega) (by have := hlt; unfold maxLen at hn; omega)]; omega
    cases h3 : decide (d > 64) with
    | true =>
      rw [h3] at hb hc
      rw [hc]
      have := code_tidy mixed (evGT_ok mixed orBare_ok 10) told_ok hb rfl (Nat.le_refl _)
      exact ⟨0, .out (this.weak (fgo_wk _ 0 [5])) (by simp [O6])⟩
    | false =>
      cases h4 : (!bareN (vals.getD j v0).m.slots.length (vals.getD j v0).m.unknown.length) with
      | true =>
        rw [h3, h4] at hb hc
        rw [hc]
        have := code_tidy mixed (evGT_ok mixed orBare_ok 10) told_ok hb rfl (Nat.le_refl _)
        rw [hw] at this
        obtain ⟨n, hr⟩ := ih (j + 1) (mx d (downM (vals.getD j v0).m (up a))) (by omega) hlt
        exact ⟨n + 1, .next this hr⟩
      | false =>
        rw [h3, h4] at hb hc
        rw [hc]
        have := code_tidy mixed (evGT_ok mixed orBare_ok 10) told_ok hb rfl (Nat.le_refl _)
        rw [hw] at this
        obtain ⟨n, hr⟩ := ih (j + 1) d (by omega) hlt
        exact ⟨n + 1, .next this hr⟩

theorem ends6 (vals : List Val) (hv : ∀ x ∈ vals, Is m0 x.m) (d : Int) : CodeOk Tryz.prog (.loop (loopOf Tryz.f78 6)) (T6 a d sl b ls vals.length fs (rowVals vals) i 0) (HX m0) (O6 a sl ls fs i (downV vals a d).1 (downV vals a d).2).1 (O6 a sl ls fs i (downV vals a d).1 (downV vals a d).2).2 (HX m0) [] := by
  by_cases hn : vals.length ≤ maxLen
  · obtain ⟨n, hr⟩ := loop6 m0 a sl b ls fs i vals hv hn vals.length 0 d rfl (Nat.zero_le _)
    exact hr.ok.weakIn (.tm (.cons (.refl _) (.cons (.refl _) (.cons (.refl _) (.cons (.refl _) (.cons (.refl _) (.cons (.refl _) (.cons (.rsl (see_vals vals)) (.cons (.refl _) (.cons (.refl _) .nil))))))))))
  · exact .long (i := 20) (sz := 4) (n := vals.length) (nl := b) (el := rowVals vals) (own := .non) rfl (by omega)

def T3 (a d : Int) (sl : Bool) (ls : Nat) (fs : Nat → List AV) (i : Int) : List AV := tmA 44 [(1, i64 a), (2, .ptr 1 0), (6, i64 d), (13, .rsl sl 2 ls fs .non), (14, i64 ls), (15, i64 i)]
def O3 (w : Bool) (n : Int) : AExit × List AV := bif w then (.exit 0, tmA 44 [(6, i64 n)]) else (.ret, tmA 44 [(5, i64 n)])

theorem body3 (slots : List Slot) (d : Int) (i : Nat) (w : Bool) (n : Int) : (evCT Tryz.prog (evGT Tryz.prog noneT 10) (told Tryz.prog [⟨6, 2, ks6, (O6 a sl ls (seeSlots slots) i w n).1, (O6 a sl ls (seeSlots slots) i w n).2⟩] []) 10 (loopOf Tryz.f78 3) (T3 a d sl ls (seeSlots slots) i) (HX m0)).via (tidy [1, 2, 5, 6, 13, 14, 15] 2) =
    bif decide ((i : Int) < ls) then (bif decide (0 ≤ (i : Int) ∧ (i : Int) < ls) then
      (bif askL Tryz.prog (loopOf Tryz.f78 6) (T6 a d sl (slots.getD i s0).vnl ls (slots.getD i s0).vals.length (seeSlots slots) (rowVals (slots.getD i s0).vals) i 0) (HX m0) (O6 a sl ls (seeSlots slots) i w n).1 (O6 a sl ls (seeSlots slots) i w n).2 then
        (bif w then some ⟨.normal, T3 a n sl ls (seeSlots slots) (IntKind.wrap .i64 (i + 1)), HX m0, [], true⟩ else some ⟨.ret, tmA 44 [(5, i64 n)], HX m0, [], true⟩) else none) else none)
    else some ⟨.exit 0, T3 a d sl ls (seeSlots slots) i, HX m0, [], true⟩ := by cases w <;> kernel_rfl

theorem loop3 (slots : List Slot) (hv : ∀ s ∈ slots, ∀ x ∈ s.vals, Is m0 x.m) (hn : slots.length ≤ maxLen) : ∀ (k i : Nat) (d : Int), slots.length - i = k → i ≤ slots.length →
    ∃ n, Rounds Tryz.prog (loopOf Tryz.f78 3) (O3 (downS (slots.drop i) a d).1 (downS (slots.drop i) a d).2).1 (O3 (downS (slots.drop i) a d).1 (downS (slots.drop i) a d).2).2 (HX m0) n (T3 a d sl slots.length (seeSlots slots) i) (HX m0) [] := by
  intro k
  induction k with
  | zero =>
    intro i d hk hi
    have h1 : decide ((i : Int) < slots.length) = false := by rw [decide_eq_false_iff_not]; omega
    have := code_tidy mixed (evGT_ok mixed (noneT_ok _) 10) told_ok (body3 m0 a sl slots.length slots d i true 0) (by simp only [h1, cond_false]; rfl) (Nat.le_refl _)
    have e : slots.drop i = [] := List.drop_eq_nil_of_le (by omega)
    rw [e]
    exact ⟨0, .out (this.weak (fgo_wk _ 0 [6])) (by simp [O3, downS])⟩
  | succ k ih =>
    intro i d hk hi
    have hlt : i < slots.length := by omega
    have h1 : decide ((i : Int) < slots.length) = true := by rw [decide_eq_true_eq]; omega
    have h2 : decide (0 ≤ (i : Int) ∧ (i : Int) < slots.length) = true := by rw [decide_eq_true_eq]; omega
    have hb := body3 m0 a sl slots.length slots d i (downV (slots.getD i s0).vals a d).1 (downV (slots.getD i s0).vals a d).2
    rw [h1, h2, askL_of (ends6 m0 a sl (slots.getD i s0).vnl slots.length (seeSlots slots) i (slots.getD i s0).vals (hv (slots.getD i s0) (getD_mem hlt)) d)] at hb
    simp only [cond_true] at hb
    have hc := downS_cons (slots.getD i s0) (slots.drop (i + 1)) a d
    rw [← drop_cons s0 hlt] at hc
    rw [hc]
    cases h3 : (downV (slots.getD i s0).vals a d).1 with
    | false =>
      rw [h3] at hb
      have := code_tidy mixed (evGT_ok mixed (noneT_ok _) 10) told_ok hb rfl (Nat.le_refl _)
      exact ⟨0, .out this (by simp [O3])⟩
    | true =>
      rw [h3] at hb
      have := code_tidy mixed (evGT_ok mixed (noneT_ok _) 10) told_ok hb rfl (Nat.le_refl _)
      have hw : IntKind.wrap .i64 ((i : Int) + 1) = ((i + 1 : Nat) : Int) := by
        rw [wrap_i64 (by omega) (by have := hlt; unfold maxLen at hn; omega)]; omega
      rw [hw] at this
      obtain ⟨n, hr⟩ := ih (i + 1) (downV (slots.getD i s0).vals a d).2 (by omega) hlt
      exact ⟨n + 1, .next this hr⟩

theorem ends3 (slots : List Slot) (hv : ∀ s ∈ slots, ∀ x ∈ s.vals, Is m0 x.m) (d : Int) : CodeOk Tryz.prog (.loop (loopOf Tryz.f78 3)) (T3 a d sl slots.length (rowSlots slots) 0) (HX m0) (O3 (downS slots a d).1 (downS slots a d).2).1 (O3 (downS slots a d).1 (downS slots a d).2).2 (HX m0) [] := by
  by_cases hn : slots.length ≤ maxLen
  · obtain ⟨n, hr⟩ := loop3 m0 a sl slots hv hn slots.length 0 d rfl (Nat.zero_le _)
    exact hr.ok.weakIn (.tm (.cons (.refl _) (.cons (.refl _) (.cons (.refl _) (.cons (.rsl (see_slots slots)) (.cons (.refl _) (.cons (.refl _) .nil)))))))
  · exact .long (i := 13) (sz := 2) (n := slots.length) (nl := sl) (el := rowSlots slots) (own := .non) rfl (by omega)

/-- An answer, and whether nothing but new things were written. -/
def ansW (r : AV × AHeap × List Nat) : AV × List Nat := (r.1, r.2.2)

theorem tree (m : Msg) (w : Bool) (n : Int) : (evGL Tryz.prog noneT (fun _ => told Tryz.prog [⟨3, 2, [1, 2, 6, 13, 14, 15], (O3 w n).1, (O3 w n).2⟩] []) 10 78 [.agg (msgP m), i64 a, .ptr 1 0] (HX m0)).via ansW =
    bif askL Tryz.prog (loopOf Tryz.f78 3) (T3 a a m.snl m.slots.length (rowSlots m.slots) 0) (HX m0) (O3 w n).1 (O3 w n).2 then some (i64 n, []) else none := by cases w <;> kernel_rfl
end Down78
end

/-- A scalar answer, and nothing of before written. -/
theorem ctr_scW {P : Program} (hm : P.follows .mixedOrders = true) {orc : OrcT} (horc : OrcOk P orc) {lo : FuncId → LoopO} (hl : ∀ g, LoopsOk P (lo g)) {n : Nat} {g : FuncId} {args : List AV} {H : AHeap} {F : Option (AV × List Nat)} {u : AV} (h : (evGL P orc lo n g args H).via (fun r => (r.1, r.2.2)) = F) (hF : F = some (u, [])) (hu : LF u) : Ctr P g args u H H [] := by
  obtain ⟨r, hr, hq⟩ := via_some h hF
  have := evGL_ok hm horc hl n g args H r hr
  simp only [Prod.mk.injEq] at hq
  rw [hq.1, hq.2] at this
  exact ctr_forget this hu

namespace Down78
theorem is_of (m0 m : Msg) (hv : ∀ s ∈ m.slots, ∀ x ∈ s.vals, Is m0 x.m) : Is m0 m := by
  intro a
  have hb := tree m0 a m (downS m.slots a a).1 (downS m.slots a a).2
  rw [askL_of (ends3 m0 a m.snl m.slots hv a)] at hb
  exact ctr_scW mixed (noneT_ok _) (fun _ => told_ok) hb (by rw [downM_eq]; rfl) (.sc _)

mutual
theorem is_msg (m0 : Msg) : ∀ m : Msg, Is m0 m
  | .mk a s b u => is_of m0 (.mk a s b u) (is_slots m0 s)
theorem is_slots (m0 : Msg) : ∀ (l : List Slot), ∀ s ∈ l, ∀ x ∈ s.vals, Is m0 x.m
  | [], s, h => by cases h
  | .mk n a v :: r, s, h => fun x hx => by
    rcases List.mem_cons.1 h with rfl | h
    · exact is_vals m0 v x hx
    · exact is_slots m0 r s h x hx
theorem is_vals (m0 : Msg) : ∀ (l : List Val), ∀ x ∈ l, Is m0 x.m
  | [], x, h => by cases h
  | .mk n a b m :: r, x, h => by
    rcases List.mem_cons.1 h with rfl | h
    · exact is_msg m0 m
    · exact is_vals m0 r x h
end

theorem tree32 (m : Msg) (u : Int) : (evGL Tryz.prog noneT (fun _ => told Tryz.prog [] [⟨8, 2, i64 u⟩]) 10 32 [.agg (msgP m)] []).via ansA =
    bif askCall Tryz.prog 78 [.agg (msgP m), i64 1, .ptr 1 0] (HX m) (i64 u) then (bif decide (u ≤ 64) then some (i64 u) else some (i64 100)) else none := by kernel_rfl
end Down78

theorem deepP_ctr (m : Msg) (H : AHeap) : Ctr Tryz.prog 32 [.agg (msgP m)] (i64 (deepP m)) H H [] := by
  have hb := Down78.tree32 m (downM m 1)
  rw [askCall_of (Down78.is_msg m m 1)] at hb
  refine ctr_scL mixed (noneT_ok _) (fun _ => told_ok) hb ?_ (fun x hx => by simp at hx; subst hx; exact .agg _ (lf_msg m)) H
  unfold deepP
  cases decide (downM m 1 ≤ 64) <;> rfl
end Go.Proofs.YtiipaliigpkfhaaGreat.Ab
