/- When messages are alike: the reference's function computes eqM. -/
import Derived.Test.YtiipaliigpkfhaaGreatG4
set_option linter.unusedVariables false
set_option linter.unusedSimpArgs false
set_option maxRecDepth 100000
namespace Go.Proofs.YtiipaliigpkfhaaGreat.Ab
open Go Go.RowKit Go.Proofs

/-- A row's cells, each told no less. -/
theorem Wk1.rsl2 {nl : Bool} {sz n : Nat} {el el' : Nat → List AV} {own : Own} (h : ∀ i, i < n → Wk (el i) (el' i) ∧ ∀ x ∈ el' i, oneC x = true) : Wk1 (.rsl nl sz n el own) (.rsl nl sz n el' own) := by
  intro E v hr
  cases hr with
  | rnil sz el own ho => exact .rnil sz _ own ho
  | rodd sz el own a ho => exact .rodd sz _ own a ho
  | rsl sz n el own b off c u hn ho hc hl h1 hS hk =>
    refine .rsl sz n el' own b off c u hn ho hc (fun i hi => (h i hi).1.1.symm.trans (hl i hi)) (fun i hi => (h i hi).2) (fun i hi j y hy => ?_) (fun i hi j y hy => ?_)
    · obtain ⟨x, hx, k⟩ := (h i hi).1.2 j y hy
      exact hS i hi j x hx
    · obtain ⟨x, hx, k⟩ := (h i hi).1.2 j y hy
      exact k _ _ (hk i hi j x hx)

theorem Ctr.wk {P : Program} {g : FuncId} {args args' : List AV} {x : AV} {H H1 : AHeap} {W : List Nat} (h : Ctr P g args' x H H1 W) (w : Wk args args') : Ctr P g args x H H1 W :=
  ⟨h.1, fun E w0 w1 vs hg hr => h.2.1 E w0 w1 vs hg ⟨hr.1.trans w.1, fun i y hy => by obtain ⟨x, hx, k⟩ := w.2 i y hy; exact k _ _ (hr.2 i x hx)⟩, h.2.2⟩

/-- Slots, and their worths, seen field by field. -/
def slotS (s : Slot) : List AV := [.sc (.int .i64 s.num), .rsl s.vnl 4 s.vals.length (seeVals s.vals) .non]
def seeSlotsV (s : List Slot) : Nat → List AV := fun i => slotS (s.getD i s0)
def msgS (m : Msg) : List AV := [.rsl m.snl 2 m.slots.length (seeSlotsV m.slots) .non, .rsl m.unl 1 m.unknown.length (rowB m.unknown) .non]

theorem slot_wk (s : Slot) : Wk (slotP s) (slotS s) := .cons (.refl _) (.cons (.rsl (see_vals s.vals)) .nil)
theorem slotS_one (s : Slot) : ∀ x ∈ slotS s, oneC x = true := by
  intro x hx
  simp only [slotS, List.mem_cons, List.mem_nil_iff, or_false] at hx
  rcases hx with rfl | rfl <;> rfl
theorem slots_wk (nl : Bool) (s : List Slot) : Wk1 (.rsl nl 2 s.length (rowSlots s) .non) (.rsl nl 2 s.length (seeSlotsV s) .non) :=
  .rsl2 fun i hi => ⟨by rw [see_slots s i hi]; exact slot_wk _, slotS_one _⟩
theorem msg_wk (m : Msg) : Wk1 (.agg (msgP m)) (.agg (msgS m)) := .agg (.cons (slots_wk _ _) (.cons (.refl _) .nil))

def HM (x y : Msg) : AHeap := [.cells (msgS x), .cells (msgS y)]
namespace Same77
def T9 (i ls nv j : Int) : List AV := tmA 113 [(2, .ptr 0 0), (3, .ptr 1 0), (5, i64 i), (27, i64 ls), (28, i64 i), (67, i64 nv), (68, i64 j)]
def T4 (ls i : Int) : List AV := tmA 113 [(2, .ptr 0 0), (3, .ptr 1 0), (27, i64 ls), (28, i64 i)]
def O9 (i ls : Int) (w : Bool) : AExit × List AV := bif w then (.exit 2, tmA 113 [(2, .ptr 0 0), (3, .ptr 1 0), (27, i64 ls), (28, i64 i)]) else (.ret, tmA 113 [(4, .sc (.bool false))])
def O4 (w : Bool) : AExit × List AV := bif w then (.exit 0, tmA 113 []) else (.ret, tmA 113 [(4, .sc (.bool false))])
end Same77

theorem eqVl_P (p q : Val) : eqVl p q = ((p.n == q.n) && (p.b == q.b) && eqM p.m q.m) := by cases p; cases q; simp only [eqVl, Val.n, Val.b, Val.m]
theorem eqSl_P (p q : Slot) : eqSl p q = ((p.num == q.num) && eqVs p.vals q.vals) := by cases p; cases q; simp only [eqSl, Slot.num, Slot.vals]
theorem eqM_P (p q : Msg) : eqM p q = ((p.unknown == q.unknown) && eqS p.slots q.slots) := by cases p; cases q; simp only [eqM, Msg.unknown, Msg.slots]
theorem eqVs_len : ∀ (v v' : List Val), v.length ≠ v'.length → eqVs v v' = false
  | [], [], h => absurd rfl h
  | [], _ :: _, h => by simp [eqVs]
  | _ :: _, [], h => by simp [eqVs]
  | p :: r, q :: r', h => by simp only [eqVs]; rw [eqVs_len r r' (by simpa using h), Bool.and_false]
theorem eqS_len : ∀ (v v' : List Slot), v.length ≠ v'.length → eqS v v' = false
  | [], [], h => absurd rfl h
  | [], _ :: _, h => by simp [eqS]
  | _ :: _, [], h => by simp [eqS]
  | p :: r, q :: r', h => by simp only [eqS]; rw [eqS_len r r' (by simpa using h), Bool.and_false]
theorem eqVs_cons (p q : Val) (r r' : List Val) : eqVs (p :: r) (q :: r') = (eqVl p q && eqVs r r') := by simp only [eqVs]
theorem eqS_cons (p q : Slot) (r r' : List Slot) : eqS (p :: r) (q :: r') = (eqSl p q && eqS r r') := by simp only [eqS]

theorem wrap_next {j n : Nat} (h : j < n) (hn : n ≤ maxLen) : IntKind.wrap .i64 ((j : Int) + 1) = ((j + 1 : Nat) : Int) := by
  rw [wrap_i64 (by omega) (by unfold maxLen at hn; omega)]; omega
theorem idx_true {j n : Nat} (h : j < n) : decide (0 ≤ (j : Int) ∧ (j : Int) < n) = true := by rw [decide_eq_true_eq]; omega
theorem lt_true {j n : Nat} (h : j < n) : decide ((j : Int) < n) = true := by rw [decide_eq_true_eq]; omega
theorem lt_false {j n : Nat} (h : n ≤ j) : decide ((j : Int) < n) = false := by rw [decide_eq_false_iff_not]; omega
theorem bne_of {a b : Int} : (a != b) = !(a == b) := rfl

namespace Same77
def T9r (i ls nv j : Int) : List AV := tmA 113 [(2, .ptr 0 0), (3, .ptr 1 0), (4, .sc (.bool false)), (5, i64 i), (27, i64 ls), (28, i64 i), (67, i64 nv), (68, i64 j)]
def T4r (ls i : Int) : List AV := tmA 113 [(2, .ptr 0 0), (3, .ptr 1 0), (4, .sc (.bool false)), (27, i64 ls), (28, i64 i)]

section
variable (x y : Msg) (p q : Val) (s s' : Slot)
theorem body9 (i j : Nat) (ls nv : Int) (u : Bool) (hs : x.slots.getD i s0 = s) (hs' : y.slots.getD i s0 = s') (hp : s.vals.getD j v0 = p) (hq : s'.vals.getD j v0 = q) :
    (evCT Tryz.prog (evGT Tryz.prog noneT 10) (told Tryz.prog [] [⟨108, 0, .sc (.bool u)⟩]) 10 (loopOf Tryz.f77 9) (T9 i ls nv j) (HM x y)).via (tidy [2, 3, 4, 5, 27, 28, 67, 68] 2) =
    bif decide ((j : Int) < nv) then (bif decide (0 ≤ (i : Int) ∧ (i : Int) < x.slots.length) then (bif decide (0 ≤ (j : Int) ∧ (j : Int) < s.vals.length) then
      (bif decide (0 ≤ (i : Int) ∧ (i : Int) < y.slots.length) then (bif decide (0 ≤ (j : Int) ∧ (j : Int) < s'.vals.length) then
        (bif p.n != q.n then some ⟨.ret, T9r i ls nv j, HM x y, [], true⟩ else
         bif (bytesL p.b.length (rowB p.b)).isSome then (bif (bytesL q.b.length (rowB q.b)).isSome then
          (bif !((rowStr p.b.length (rowB p.b)).toList == (rowStr q.b.length (rowB q.b)).toList) then some ⟨.ret, T9r i ls nv j, HM x y, [], true⟩ else
           bif askCall Tryz.prog 77 [.agg (msgP p.m), .agg (msgP q.m)] [] (.sc (.bool u)) then
            (bif !u then some ⟨.ret, T9r i ls nv j, HM x y, [], true⟩ else some ⟨.normal, T9 i ls nv (IntKind.wrap .i64 (j + 1)), HM x y, [], true⟩) else none) else none) else none) else none) else none) else none) else none)
    else some ⟨.exit 2, T9 i ls nv j, HM x y, [], true⟩ := by subst hs hs' hp hq; kernel_rfl

theorem body4 (i : Nat) (ls : Int) (w : Bool) (hs : x.slots.getD i s0 = s) (hs' : y.slots.getD i s0 = s') :
    (evCT Tryz.prog (evGT Tryz.prog noneT 10) (told Tryz.prog [⟨9, 2, [2, 3, 5, 27, 28, 67, 68], (O9 i ls w).1, (O9 i ls w).2⟩] []) 10 (loopOf Tryz.f77 4) (T4 ls i) (HM x y)).via (tidy [2, 3, 4, 27, 28] 2) =
    bif decide ((i : Int) < ls) then (bif decide (0 ≤ (i : Int) ∧ (i : Int) < x.slots.length) then (bif decide (0 ≤ (i : Int) ∧ (i : Int) < y.slots.length) then
      (bif s.num != s'.num then some ⟨.ret, T4r ls i, HM x y, [], true⟩ else
       (bif decide (0 ≤ (i : Int) ∧ (i : Int) < x.slots.length) then (bif decide (0 ≤ (i : Int) ∧ (i : Int) < y.slots.length) then
        (bif (s.vals.length : Int) != (s'.vals.length : Int) then some ⟨.ret, T4r ls i, HM x y, [], true⟩ else
         bif decide (0 ≤ (i : Int) ∧ (i : Int) < x.slots.length) then
          (bif askL Tryz.prog (loopOf Tryz.f77 9) (T9 i ls s.vals.length 0) (HM x y) (O9 i ls w).1 (O9 i ls w).2 then
            (bif w then some ⟨.normal, T4 ls (IntKind.wrap .i64 (i + 1)), HM x y, [], true⟩ else some ⟨.ret, tmA 113 [(4, .sc (.bool false))], HM x y, [], true⟩) else none) else none) else none) else none)) else none) else none)
    else some ⟨.exit 0, T4 ls i, HM x y, [], true⟩ := by subst hs hs'; cases w <;> kernel_rfl

theorem tree (w : Bool) : (evGL Tryz.prog noneT (fun _ => told Tryz.prog [⟨4, 2, [2, 3, 27, 28], (O4 w).1, (O4 w).2⟩] []) 10 77 [.agg (msgS x), .agg (msgS y)] []).via ansA =
    bif (bytesL x.unknown.length (rowB x.unknown)).isSome then (bif (bytesL y.unknown.length (rowB y.unknown)).isSome then
      (bif !((rowStr x.unknown.length (rowB x.unknown)).toList == (rowStr y.unknown.length (rowB y.unknown)).toList) then T false else
       bif (x.slots.length : Int) != (y.slots.length : Int) then T false else
       bif askL Tryz.prog (loopOf Tryz.f77 4) (T4 x.slots.length 0) (HM x y) (O4 w).1 (O4 w).2 then T w else none) else none) else none := by cases w <;> kernel_rfl
end

/-- What is shown of the messages within. -/
def Is (m : Msg) : Prop := ∀ y : Msg, Ctr Tryz.prog 77 [.agg (msgP m), .agg (msgP y)] (.sc (.bool (eqM m y))) [] [] []

theorem loop9 (x y : Msg) (s s' : Slot) (i : Nat) (ls : Int) (hx : i < x.slots.length) (hy : i < y.slots.length) (hs : x.slots.getD i s0 = s) (hs' : y.slots.getD i s0 = s') (hv : ∀ p ∈ s.vals, Is p.m) (hlen : s.vals.length = s'.vals.length) (hn : s.vals.length ≤ maxLen) :
    ∀ (k j : Nat), s.vals.length - j = k → j ≤ s.vals.length →
    ∃ n, Rounds Tryz.prog (loopOf Tryz.f77 9) (O9 i ls (eqVs (s.vals.drop j) (s'.vals.drop j))).1 (O9 i ls (eqVs (s.vals.drop j) (s'.vals.drop j))).2 (HM x y) n (T9 i ls s.vals.length j) (HM x y) [] := by
  intro k
  induction k with
  | zero =>
    intro j hk hj
    have := code_tidy mixed (evGT_ok mixed (noneT_ok _) 10) told_ok (body9 x y _ _ s s' i j ls s.vals.length true hs hs' rfl rfl) (by rw [lt_false (by omega : s.vals.length ≤ j)]; rfl) (Nat.le_refl _)
    rw [List.drop_eq_nil_of_le (by omega : s.vals.length ≤ j), List.drop_eq_nil_of_le (by omega : s'.vals.length ≤ j), show eqVs [] [] = true by simp only [eqVs]]
    exact ⟨0, .out (this.weak (fgo_wk _ 0 [2, 3, 27, 28])) (by simp [O9])⟩
  | succ k ih =>
    intro j hk hj
    have hlt : j < s.vals.length := by omega
    have hlt' : j < s'.vals.length := by omega
    have hb := body9 x y (s.vals.getD j v0) (s'.vals.getD j v0) s s' i j ls s.vals.length (eqM (s.vals.getD j v0).m (s'.vals.getD j v0).m) hs hs' rfl rfl
    rw [lt_true hlt, idx_true hx, idx_true hlt, idx_true hy, idx_true hlt', bytesL_row, bytesL_row, rowStr_eq, rowStr_eq, strOf_toList, strOf_toList, askCall_of (hv _ (getD_mem hlt) _), bne_of] at hb
    simp only [cond_true, Option.isSome_some] at hb
    rw [drop_cons v0 hlt, drop_cons v0 hlt', eqVs_cons, eqVl_P]
    have stop : ∀ b : Bool, (evCT Tryz.prog (evGT Tryz.prog noneT 10) (told Tryz.prog [] [⟨108, 0, .sc (.bool (eqM (s.vals.getD j v0).m (s'.vals.getD j v0).m))⟩]) 10 (loopOf Tryz.f77 9) (T9 i ls s.vals.length j) (HM x y)).via (tidy [2, 3, 4, 5, 27, 28, 67, 68] 2) = some ⟨.ret, T9r i ls s.vals.length j, HM x y, [], true⟩ → b = false →
        ∃ n, Rounds Tryz.prog (loopOf Tryz.f77 9) (O9 i ls b).1 (O9 i ls b).2 (HM x y) n (T9 i ls s.vals.length j) (HM x y) [] := by
      intro b hb e
      subst e
      have := code_tidy mixed (evGT_ok mixed (noneT_ok _) 10) told_ok hb rfl (Nat.le_refl _)
      exact ⟨0, .out (this.weak (fgo_wk _ 0 [4])) (by simp [O9])⟩
    cases h1 : ((s.vals.getD j v0).n == (s'.vals.getD j v0).n) with
    | false => rw [h1] at hb; exact stop _ hb (by simp)
    | true =>
      cases h2 : ((s.vals.getD j v0).b == (s'.vals.getD j v0).b) with
      | false => rw [h1, h2] at hb; exact stop _ hb (by simp)
      | true =>
        cases h3 : eqM (s.vals.getD j v0).m (s'.vals.getD j v0).m with
        | false =>
          rw [h1, h2] at hb
          simp only [Bool.not_true, cond_false] at hb
          refine stop _ (hb.trans ?_) (by simp)
          rw [h3]; rfl
        | true =>
          rw [h1, h2] at hb
          simp only [Bool.not_true, cond_false] at hb
          have := code_tidy mixed (evGT_ok mixed (noneT_ok _) 10) told_ok hb (by rw [h3]; rfl) (Nat.le_refl _)
          rw [wrap_next hlt hn] at this
          obtain ⟨n, hr⟩ := ih (j + 1) (by omega) hlt
          refine ⟨n + 1, .next this ?_⟩
          simpa using hr

theorem ends9 (x y : Msg) (s s' : Slot) (i : Nat) (ls : Int) (hx : i < x.slots.length) (hy : i < y.slots.length) (hs : x.slots.getD i s0 = s) (hs' : y.slots.getD i s0 = s') (hv : ∀ p ∈ s.vals, Is p.m) (hlen : s.vals.length = s'.vals.length) (hn : s.vals.length ≤ maxLen) :
    CodeOk Tryz.prog (.loop (loopOf Tryz.f77 9)) (T9 i ls s.vals.length 0) (HM x y) (O9 i ls (eqVs s.vals s'.vals)).1 (O9 i ls (eqVs s.vals s'.vals)).2 (HM x y) [] := by
  obtain ⟨n, hr⟩ := loop9 x y s s' i ls hx hy hs hs' hv hlen hn s.vals.length 0 rfl (Nat.zero_le _)
  exact hr.ok

end Same77

theorem rel_len {E : Env} {nl : Bool} {sz n : Nat} {el : Nat → List AV} {own : Own} {v : Value} (h : Rel E (.rsl nl sz n el own) v) : n ≤ maxLen := by
  cases h with
  | rnil => exact Nat.zero_le _
  | rodd => exact Nat.zero_le _
  | rsl sz n el own b off c u h1 ho h2 => omega

/-- Its rows are as long as rows can be. -/
def Fits (m : Msg) : Prop := m.slots.length ≤ maxLen ∧ ∀ s ∈ m.slots, s.vals.length ≤ maxLen

theorem rel_cells {E : Env} {nl : Bool} {sz n : Nat} {el : Nat → List AV} {own : Own} {v : Value} (h : Rel E (.rsl nl sz n el own) v) (i j : Nat) (x : AV) (hi : i < n) (hj : (el i)[j]? = some x) : ∃ u, Rel E.data x u := by
  cases h with
  | rnil => omega
  | rodd => omega
  | rsl sz n el own b off c u h1 ho h2 hl h3 hS hk => exact ⟨_, hk i hi j x hj⟩

theorem rel_fits {E : Env} {m : Msg} {v : Value} (h : Rel E (.agg (msgP m)) v) : Fits m := by
  cases h with
  | agg cs us hs hk =>
    have h0 := hk 0 _ rfl
    refine ⟨rel_len h0, fun s hm => ?_⟩
    obtain ⟨i, hi, rfl⟩ := List.mem_iff_getElem.1 hm
    have hget : rowSlots m.slots i = slotP m.slots[i] := by
      rw [see_slots m.slots i hi]
      unfold seeSlots
      congr 1
      simp [List.getD_eq_getElem?_getD, hi]
    obtain ⟨u, hu⟩ := rel_cells h0 i 1 (.rsl m.slots[i].vnl 4 m.slots[i].vals.length (rowVals m.slots[i].vals) .non) hi (by rw [hget]; rfl)
    exact rel_len hu

/-- What cannot be asked is answered anyhow. -/
theorem Ctr.void {P : Program} {g : FuncId} {args : List AV} {x : AV} {H : AHeap} (hb : HasBody P g) (h : ∀ (E : Env) (vs : Array Value), ¬ RelL E args vs) : Ctr P g args x H H [] :=
  ⟨hb, fun E w0 w vs _ hr => absurd hr (h E vs), .refl _ _⟩

namespace Same77
theorem hasBody : HasBody Tryz.prog 77 := ⟨Tryz.f77, _, Tryz.func77, by kernel_rfl, rfl⟩

theorem loop4 (x y : Msg) (hv : ∀ s ∈ x.slots, ∀ p ∈ s.vals, Is p.m) (hlen : x.slots.length = y.slots.length) (hn : Fits x) :
    ∀ (k i : Nat), x.slots.length - i = k → i ≤ x.slots.length →
    ∃ n, Rounds Tryz.prog (loopOf Tryz.f77 4) (O4 (eqS (x.slots.drop i) (y.slots.drop i))).1 (O4 (eqS (x.slots.drop i) (y.slots.drop i))).2 (HM x y) n (T4 x.slots.length i) (HM x y) [] := by
  intro k
  induction k with
  | zero =>
    intro i hk hi
    have := code_tidy mixed (evGT_ok mixed (noneT_ok _) 10) told_ok (body4 x y _ _ i x.slots.length true rfl rfl) (by rw [lt_false (by omega : x.slots.length ≤ i)]; rfl) (Nat.le_refl _)
    rw [List.drop_eq_nil_of_le (by omega : x.slots.length ≤ i), List.drop_eq_nil_of_le (by omega : y.slots.length ≤ i), show eqS [] [] = true by simp only [eqS]]
    exact ⟨0, .out (this.weak (fgo_wk _ 0 [])) (by simp [O4])⟩
  | succ k ih =>
    intro i hk hi
    have hlt : i < x.slots.length := by omega
    have hlt' : i < y.slots.length := by omega
    have hm : x.slots.getD i s0 ∈ x.slots := getD_mem hlt
    rw [drop_cons s0 hlt, drop_cons s0 hlt', eqS_cons, eqSl_P]
    have stop : ∀ (w b : Bool), (evCT Tryz.prog (evGT Tryz.prog noneT 10) (told Tryz.prog [⟨9, 2, [2, 3, 5, 27, 28, 67, 68], (O9 i x.slots.length w).1, (O9 i x.slots.length w).2⟩] []) 10 (loopOf Tryz.f77 4) (T4 x.slots.length i) (HM x y)).via (tidy [2, 3, 4, 27, 28] 2) = some ⟨.ret, T4r x.slots.length i, HM x y, [], true⟩ → b = false →
        ∃ n, Rounds Tryz.prog (loopOf Tryz.f77 4) (O4 b).1 (O4 b).2 (HM x y) n (T4 x.slots.length i) (HM x y) [] := by
      intro w b hb e
      subst e
      have := code_tidy mixed (evGT_ok mixed (noneT_ok _) 10) told_ok hb rfl (Nat.le_refl _)
      exact ⟨0, .out (this.weak (fgo_wk _ 0 [4])) (by simp [O4])⟩
    have hb := body4 x y (x.slots.getD i s0) (y.slots.getD i s0) i x.slots.length (eqVs (x.slots.getD i s0).vals (y.slots.getD i s0).vals) rfl rfl
    rw [lt_true hlt, idx_true hlt, idx_true hlt', bne_of, bne_of] at hb
    simp only [cond_true] at hb
    cases h1 : ((x.slots.getD i s0).num == (y.slots.getD i s0).num) with
    | false => rw [h1] at hb; exact stop _ _ hb (by simp)
    | true =>
      rw [h1] at hb
      simp only [Bool.not_true, cond_false] at hb
      by_cases h2 : (x.slots.getD i s0).vals.length = (y.slots.getD i s0).vals.length
      · have h2' : (((x.slots.getD i s0).vals.length : Int) == ((y.slots.getD i s0).vals.length : Int)) = true := by rw [beq_iff_eq]; omega
        rw [h2'] at hb
        rw [askL_of (ends9 x y (x.slots.getD i s0) (y.slots.getD i s0) i x.slots.length hlt hlt' rfl rfl (hv _ hm) h2 (hn.2 _ hm))] at hb
        simp only [Bool.not_true, cond_false, cond_true] at hb
        cases h3 : eqVs (x.slots.getD i s0).vals (y.slots.getD i s0).vals with
        | false =>
          have := code_tidy mixed (evGT_ok mixed (noneT_ok _) 10) told_ok hb (by rw [h3]; rfl) (Nat.le_refl _)
          exact ⟨0, .out this (by simp [O4])⟩
        | true =>
          have := code_tidy mixed (evGT_ok mixed (noneT_ok _) 10) told_ok hb (by rw [h3]; rfl) (Nat.le_refl _)
          rw [wrap_next hlt hn.1] at this
          obtain ⟨n, hr⟩ := ih (i + 1) (by omega) hlt
          refine ⟨n + 1, .next this ?_⟩
          simpa using hr
      · have h2' : (((x.slots.getD i s0).vals.length : Int) == ((y.slots.getD i s0).vals.length : Int)) = false := by rw [beq_eq_false_iff_ne]; omega
        rw [h2'] at hb
        exact stop _ _ hb (by rw [eqVs_len _ _ h2]; rfl)

theorem ends4 (x y : Msg) (hv : ∀ s ∈ x.slots, ∀ p ∈ s.vals, Is p.m) (hlen : x.slots.length = y.slots.length) (hn : Fits x) :
    CodeOk Tryz.prog (.loop (loopOf Tryz.f77 4)) (T4 x.slots.length 0) (HM x y) (O4 (eqS x.slots y.slots)).1 (O4 (eqS x.slots y.slots)).2 (HM x y) [] := by
  obtain ⟨n, hr⟩ := loop4 x y hv hlen hn x.slots.length 0 rfl (Nat.zero_le _)
  exact hr.ok

theorem is_of (m : Msg) (hv : ∀ s ∈ m.slots, ∀ p ∈ s.vals, Is p.m) : Is m := by
  intro y
  by_cases hn : Fits m
  · refine Ctr.wk ?_ (.cons (msg_wk m) (.cons (msg_wk y) .nil))
    have hb := tree m y (eqS m.slots y.slots)
    rw [bytesL_row, bytesL_row, rowStr_eq, rowStr_eq, strOf_toList, strOf_toList, bne_of] at hb
    have hlf : ∀ z ∈ [AV.agg (msgS m), .agg (msgS y)], LF z := by
      intro z hz
      simp only [List.mem_cons, List.mem_nil_iff, or_false] at hz
      rcases hz with rfl | rfl <;>
      · refine .agg _ (fun z hz => ?_)
        simp only [msgS, List.mem_cons, List.mem_nil_iff, or_false] at hz
        rcases hz with rfl | rfl
        · exact .rsl _ _ _ _ _ (by simp)
        · exact .rsl _ _ _ _ _ (by simp)
    refine ctr_scL mixed (noneT_ok _) (fun _ => told_ok) hb ?_ hlf []
    rw [eqM_P]
    simp only [Option.isSome_some, cond_true]
    cases h1 : (m.unknown == y.unknown) with
    | false => rfl
    | true =>
      simp only [Bool.not_true, cond_false, Bool.true_and]
      by_cases h2 : m.slots.length = y.slots.length
      · have h2' : ((m.slots.length : Int) == (y.slots.length : Int)) = true := by rw [beq_iff_eq]; omega
        rw [h2', askL_of (ends4 m y hv h2 hn)]
        rfl
      · have h2' : ((m.slots.length : Int) == (y.slots.length : Int)) = false := by rw [beq_eq_false_iff_ne]; omega
        rw [h2', eqS_len _ _ h2]
        rfl
  · refine .void hasBody (fun E vs hr => hn (rel_fits (hr.2 0 _ rfl)))

mutual
theorem is_msg : ∀ m : Msg, Is m
  | .mk a s b u => is_of (.mk a s b u) (is_slots s)
theorem is_slots : ∀ (l : List Slot), ∀ s ∈ l, ∀ x ∈ s.vals, Is x.m
  | [], s, h => by cases h
  | .mk n a v :: r, s, h => fun x hx => by
    rcases List.mem_cons.1 h with rfl | h
    · exact is_vals v x hx
    · exact is_slots r s h x hx
theorem is_vals : ∀ (l : List Val), ∀ x ∈ l, Is x.m
  | [], x, h => by cases h
  | .mk n a b m :: r, x, h => by
    rcases List.mem_cons.1 h with rfl | h
    · exact is_msg m
    · exact is_vals r x h
end
end Same77
end Go.Proofs.YtiipaliigpkfhaaGreat.Ab
