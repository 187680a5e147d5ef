/- When messages are alike: the program's closures compute eqM. -/
import Derived.Test.YtiipaliigpkfhaaGreatG5
set_option linter.unusedVariables false
set_option linter.unusedSimpArgs false
set_option maxRecDepth 100000
namespace Go.Proofs.YtiipaliigpkfhaaGreat.Ab
open Go Go.RowKit Go.Proofs

namespace Same73
/-- The heap that the closures see: two messages, the two closures. -/
def HS (x y : Msg) : AHeap := [.cells (msgP x), .cells (msgP y), .cells [.fn (.func 73) [] [.ptr 3 0]], .cells [.fn (.func 71) [] [.ptr 2 0]]]
def bl (b : Bool) : AV := .sc (.bool b)
def fn71 : AV := .fn (.func 71) [] [.ptr 2 0]
def fn75 : AV := .fn (.func 75) [] [.ptr 3 0]
def rB (a : Bool) (l : List UInt8) : AV := .rsl a 1 l.length (rowB l) .non
def rV (a : Bool) (v : List Val) : AV := .rsl a 4 v.length (rowVals v) .non
def rS (a : Bool) (s : List Slot) : AV := .rsl a 2 s.length (rowSlots s) .non
def sV (a : Bool) (v : List Val) : AV := .rsl a 4 v.length (seeVals v) .non
def sS (a : Bool) (s : List Slot) : AV := .rsl a 2 s.length (seeSlots s) .non

section
variable (x y : Msg)
theorem tree71 (p q : Val) (ub um : Bool) : (evGL Tryz.prog noneT (fun _ => told Tryz.prog [] [⟨16, 0, bl ub⟩, ⟨24, 4, bl um⟩]) 10 71 [.agg (valP p), .agg (valP q), .ptr 2 0] (HS x y)).via (fun r => (r.1, r.2.2)) =
    bif p.n == q.n then (bif askCall Tryz.prog 72 [rB p.bnl p.b, rB q.bnl q.b] [] (bl ub) then
      (bif ub then (bif askCall Tryz.prog 73 [.agg (msgP p.m), .agg (msgP q.m), .ptr 3 0] (HS x y) (bl um) then some (bl um, []) else none) else some (bl false, [])) else none)
    else some (bl false, []) := by kernel_rfl

theorem tree75 (s s' : Slot) (u : Bool) : (evGL Tryz.prog noneT (fun _ => told Tryz.prog [] [⟨17, 4, bl u⟩]) 10 75 [.agg (slotP s), .agg (slotP s'), .ptr 3 0] (HS x y)).via (fun r => (r.1, r.2.2)) =
    bif s.num == s'.num then (bif askCall Tryz.prog 76 [rV s.vnl s.vals, rV s'.vnl s'.vals, fn71] (HS x y) (bl u) then some (bl u, []) else none) else some (bl false, []) := by kernel_rfl

theorem tree73 (m n : Msg) (ub u : Bool) : (evGL Tryz.prog noneT (fun _ => told Tryz.prog [] [⟨10, 0, bl ub⟩, ⟨17, 4, bl u⟩]) 10 73 [.agg (msgP m), .agg (msgP n), .ptr 3 0] (HS x y)).via (fun r => (r.1, r.2.2)) =
    bif askCall Tryz.prog 72 [rB m.unl m.unknown, rB n.unl n.unknown] [] (bl ub) then
      (bif ub then (bif askCall Tryz.prog 74 [rS m.snl m.slots, rS n.snl n.slots, fn75] (HS x y) (bl u) then some (bl u, []) else none) else some (bl false, [])) else none := by kernel_rfl

def T76 (a b : Bool) (v v' : List Val) (i : Int) : List AV := tmA 32 [(1, sV b v'), (2, fn71), (15, sV a v), (16, i64 v.length), (17, i64 i)]
def T76r (a b : Bool) (v v' : List Val) (i : Int) : List AV := tmA 32 [(1, sV b v'), (2, fn71), (6, bl false), (15, sV a v), (16, i64 v.length), (17, i64 i)]
def T74 (a b : Bool) (v v' : List Slot) (i : Int) : List AV := tmA 32 [(1, sS b v'), (2, fn75), (15, sS a v), (16, i64 v.length), (17, i64 i)]
def T74r (a b : Bool) (v v' : List Slot) (i : Int) : List AV := tmA 32 [(1, sS b v'), (2, fn75), (6, bl false), (15, sS a v), (16, i64 v.length), (17, i64 i)]
def OE (w : Bool) : AExit × List AV := bif w then (.exit 0, tmA 32 []) else (.ret, tmA 32 [(6, bl false)])

theorem body76 (a b : Bool) (v v' : List Val) (i : Nat) (u : Bool) : (evCT Tryz.prog (evGT Tryz.prog noneT 10) (told Tryz.prog [] [⟨29, 4, bl u⟩]) 10 (loopOf Tryz.f76 4) (T76 a b v v' i) (HS x y)).via (tidy [1, 2, 6, 15, 16, 17] 4) =
    bif decide ((i : Int) < v.length) then (bif decide (0 ≤ (i : Int) ∧ (i : Int) < v.length) then (bif decide (0 ≤ (i : Int) ∧ (i : Int) < v'.length) then
      (bif askCall Tryz.prog 71 [.agg (valP (v.getD i v0)), .agg (valP (v'.getD i v0)), .ptr 2 0] (HS x y) (bl u) then
        (bif !u then some ⟨.ret, T76r a b v v' i, HS x y, [], true⟩ else some ⟨.normal, T76 a b v v' (IntKind.wrap .i64 (i + 1)), HS x y, [], true⟩) else none) else none) else none)
    else some ⟨.exit 0, T76 a b v v' i, HS x y, [], true⟩ := by kernel_rfl

theorem body74 (a b : Bool) (v v' : List Slot) (i : Nat) (u : Bool) : (evCT Tryz.prog (evGT Tryz.prog noneT 10) (told Tryz.prog [] [⟨29, 4, bl u⟩]) 10 (loopOf Tryz.f74 4) (T74 a b v v' i) (HS x y)).via (tidy [1, 2, 6, 15, 16, 17] 4) =
    bif decide ((i : Int) < v.length) then (bif decide (0 ≤ (i : Int) ∧ (i : Int) < v.length) then (bif decide (0 ≤ (i : Int) ∧ (i : Int) < v'.length) then
      (bif askCall Tryz.prog 75 [.agg (slotP (v.getD i s0)), .agg (slotP (v'.getD i s0)), .ptr 3 0] (HS x y) (bl u) then
        (bif !u then some ⟨.ret, T74r a b v v' i, HS x y, [], true⟩ else some ⟨.normal, T74 a b v v' (IntKind.wrap .i64 (i + 1)), HS x y, [], true⟩) else none) else none) else none)
    else some ⟨.exit 0, T74 a b v v' i, HS x y, [], true⟩ := by kernel_rfl

theorem tree76 (a b : Bool) (v v' : List Val) (w : Bool) : (evGL Tryz.prog noneT (fun _ => told Tryz.prog [⟨4, 4, [1, 2, 15, 16, 17], (OE w).1, (OE w).2⟩] []) 10 76 [sV a v, sV b v', fn71] (HS x y)).via (fun r => (r.1, r.2.2)) =
    bif (v.length : Int) != (v'.length : Int) then some (bl false, []) else bif askL Tryz.prog (loopOf Tryz.f76 4) (T76 a b v v' 0) (HS x y) (OE w).1 (OE w).2 then some (bl w, []) else none := by cases w <;> kernel_rfl
theorem tree74 (a b : Bool) (v v' : List Slot) (w : Bool) : (evGL Tryz.prog noneT (fun _ => told Tryz.prog [⟨4, 4, [1, 2, 15, 16, 17], (OE w).1, (OE w).2⟩] []) 10 74 [sS a v, sS b v', fn75] (HS x y)).via (fun r => (r.1, r.2.2)) =
    bif (v.length : Int) != (v'.length : Int) then some (bl false, []) else bif askL Tryz.prog (loopOf Tryz.f74 4) (T74 a b v v' 0) (HS x y) (OE w).1 (OE w).2 then some (bl w, []) else none := by cases w <;> kernel_rfl
end
end Same73

namespace Same73
theorem hasBody73 : HasBody Tryz.prog 73 := ⟨Tryz.f73, _, Tryz.func73, by kernel_rfl, rfl⟩
theorem hasBody74 : HasBody Tryz.prog 74 := ⟨Tryz.f74, _, Tryz.func74, by kernel_rfl, rfl⟩
theorem hasBody76 : HasBody Tryz.prog 76 := ⟨Tryz.f76, _, Tryz.func76, by kernel_rfl, rfl⟩

theorem eqB_ctr (a b : Bool) (l l' : List UInt8) (H : AHeap) : Ctr Tryz.prog 72 [rB a l, rB b l'] (bl (l == l')) H H [] := equal_ctr a b l l' H
theorem m77_ctr (x y : Msg) : Ctr Tryz.prog 77 [.agg (msgP x), .agg (msgP y)] (bl (eqM x y)) [] [] [] := Same77.is_msg x y

section
variable (x y : Msg)
/-- What is shown of the messages within. -/
def Is (m : Msg) : Prop := ∀ n : Msg, Ctr Tryz.prog 73 [.agg (msgP m), .agg (msgP n), .ptr 3 0] (bl (eqM m n)) (HS x y) (HS x y) []

theorem vl_ctr (p q : Val) (h : Is x y p.m) : Ctr Tryz.prog 71 [.agg (valP p), .agg (valP q), .ptr 2 0] (bl (eqVl p q)) (HS x y) (HS x y) [] := by
  have hb := tree71 x y p q (p.b == q.b) (eqM p.m q.m)
  rw [askCall_of (eqB_ctr p.bnl q.bnl p.b q.b []), askCall_of (h q.m)] at hb
  refine ctr_scW mixed (noneT_ok _) (fun _ => told_ok) hb ?_ (.sc _)
  rw [eqVl_P]
  cases p.n == q.n <;> cases p.b == q.b <;> simp [bl]

theorem loop76 (a b : Bool) (v v' : List Val) (hv : ∀ p ∈ v, Is x y p.m) (hlen : v.length = v'.length) (hn : v.length ≤ maxLen) : ∀ (k i : Nat), v.length - i = k → i ≤ v.length →
    ∃ n, Rounds Tryz.prog (loopOf Tryz.f76 4) (OE (eqVs (v.drop i) (v'.drop i))).1 (OE (eqVs (v.drop i) (v'.drop i))).2 (HS x y) n (T76 a b v v' i) (HS x y) [] := by
  intro k
  induction k with
  | zero =>
    intro i hk hi
    have := code_tidy mixed (evGT_ok mixed (noneT_ok _) 10) told_ok (body76 x y a b v v' i true) (by rw [lt_false (by omega : v.length ≤ i)]; rfl) (Nat.le_refl _)
    rw [List.drop_eq_nil_of_le (by omega : v.length ≤ i), List.drop_eq_nil_of_le (by omega : v'.length ≤ i), show eqVs [] [] = true by simp only [eqVs]]
    exact ⟨0, .out (this.weak (fgo_wk _ 0 [])) (by simp [OE])⟩
  | succ k ih =>
    intro i hk hi
    have hlt : i < v.length := by omega
    have hlt' : i < v'.length := by omega
    have hb := body76 x y a b v v' i (eqVl (v.getD i v0) (v'.getD i v0))
    rw [lt_true hlt, idx_true hlt, idx_true hlt', askCall_of (vl_ctr x y _ (v'.getD i v0) (hv _ (getD_mem hlt)))] at hb
    simp only [cond_true] at hb
    rw [drop_cons v0 hlt, drop_cons v0 hlt', eqVs_cons]
    cases h : eqVl (v.getD i v0) (v'.getD i v0) with
    | false =>
      have := code_tidy mixed (evGT_ok mixed (noneT_ok _) 10) told_ok hb (by rw [h]; rfl) (Nat.le_refl _)
      exact ⟨0, .out (this.weak (fgo_wk _ 0 [6])) (by simp [OE])⟩
    | true =>
      have := code_tidy mixed (evGT_ok mixed (noneT_ok _) 10) told_ok hb (by rw [h]; rfl) (Nat.le_refl _)
      rw [wrap_next hlt hn] at this
      obtain ⟨n, hr⟩ := ih (i + 1) (by omega) hlt
      exact ⟨n + 1, .next this (by simpa using hr)⟩

theorem ends76 (a b : Bool) (v v' : List Val) (hv : ∀ p ∈ v, Is x y p.m) (hlen : v.length = v'.length) (hn : v.length ≤ maxLen) :
    CodeOk Tryz.prog (.loop (loopOf Tryz.f76 4)) (T76 a b v v' 0) (HS x y) (OE (eqVs v v')).1 (OE (eqVs v v')).2 (HS x y) [] := by
  obtain ⟨n, hr⟩ := loop76 x y a b v v' hv hlen hn v.length 0 rfl (Nat.zero_le _)
  exact hr.ok

theorem vs_ctr (a b : Bool) (v v' : List Val) (hv : ∀ p ∈ v, Is x y p.m) : Ctr Tryz.prog 76 [rV a v, rV b v', fn71] (bl (eqVs v v')) (HS x y) (HS x y) [] := by
  by_cases hn : v.length ≤ maxLen
  · refine Ctr.wk ?_ (.cons (.rsl (see_vals v)) (.cons (.rsl (see_vals v')) (.cons (.refl _) .nil)) : Wk _ [sV a v, sV b v', fn71])
    have hb := tree76 x y a b v v' (eqVs v v')
    refine ctr_scW mixed (noneT_ok _) (fun _ => told_ok) hb ?_ (.sc _)
    rw [bne_of]
    by_cases h : v.length = v'.length
    · have h2 : ((v.length : Int) == (v'.length : Int)) = true := by rw [beq_iff_eq]; omega
      rw [h2, askL_of (ends76 x y a b v v' hv h hn)]; rfl
    · have h2 : ((v.length : Int) == (v'.length : Int)) = false := by rw [beq_eq_false_iff_ne]; omega
      rw [h2, eqVs_len _ _ h]; rfl
  · exact .void hasBody76 (fun E vs hr => hn (rel_len (hr.2 0 _ rfl)))

theorem sl_ctr (s s' : Slot) (hv : ∀ p ∈ s.vals, Is x y p.m) : Ctr Tryz.prog 75 [.agg (slotP s), .agg (slotP s'), .ptr 3 0] (bl (eqSl s s')) (HS x y) (HS x y) [] := by
  have hb := tree75 x y s s' (eqVs s.vals s'.vals)
  rw [askCall_of (vs_ctr x y s.vnl s'.vnl s.vals s'.vals hv)] at hb
  refine ctr_scW mixed (noneT_ok _) (fun _ => told_ok) hb ?_ (.sc _)
  rw [eqSl_P]
  cases s.num == s'.num <;> simp [bl]

theorem loop74 (a b : Bool) (v v' : List Slot) (hv : ∀ s ∈ v, ∀ p ∈ s.vals, Is x y p.m) (hlen : v.length = v'.length) (hn : v.length ≤ maxLen) : ∀ (k i : Nat), v.length - i = k → i ≤ v.length →
    ∃ n, Rounds Tryz.prog (loopOf Tryz.f74 4) (OE (eqS (v.drop i) (v'.drop i))).1 (OE (eqS (v.drop i) (v'.drop i))).2 (HS x y) n (T74 a b v v' i) (HS x y) [] := by
  intro k
  induction k with
  | zero =>
    intro i hk hi
    have := code_tidy mixed (evGT_ok mixed (noneT_ok _) 10) told_ok (body74 x y a b v v' i true) (by rw [lt_false (by omega : v.length ≤ i)]; rfl) (Nat.le_refl _)
    rw [List.drop_eq_nil_of_le (by omega : v.length ≤ i), List.drop_eq_nil_of_le (by omega : v'.length ≤ i), show eqS [] [] = true by simp only [eqS]]
    exact ⟨0, .out (this.weak (fgo_wk _ 0 [])) (by simp [OE])⟩
  | succ k ih =>
    intro i hk hi
    have hlt : i < v.length := by omega
    have hlt' : i < v'.length := by omega
    have hb := body74 x y a b v v' i (eqSl (v.getD i s0) (v'.getD i s0))
    rw [lt_true hlt, idx_true hlt, idx_true hlt', askCall_of (sl_ctr x y _ (v'.getD i s0) (hv _ (getD_mem hlt)))] at hb
    simp only [cond_true] at hb
    rw [drop_cons s0 hlt, drop_cons s0 hlt', eqS_cons]
    cases h : eqSl (v.getD i s0) (v'.getD i s0) with
    | false =>
      have := code_tidy mixed (evGT_ok mixed (noneT_ok _) 10) told_ok hb (by rw [h]; rfl) (Nat.le_refl _)
      exact ⟨0, .out (this.weak (fgo_wk _ 0 [6])) (by simp [OE])⟩
    | true =>
      have := code_tidy mixed (evGT_ok mixed (noneT_ok _) 10) told_ok hb (by rw [h]; rfl) (Nat.le_refl _)
      rw [wrap_next hlt hn] at this
      obtain ⟨n, hr⟩ := ih (i + 1) (by omega) hlt
      exact ⟨n + 1, .next this (by simpa using hr)⟩

theorem ends74 (a b : Bool) (v v' : List Slot) (hv : ∀ s ∈ v, ∀ p ∈ s.vals, Is x y p.m) (hlen : v.length = v'.length) (hn : v.length ≤ maxLen) :
    CodeOk Tryz.prog (.loop (loopOf Tryz.f74 4)) (T74 a b v v' 0) (HS x y) (OE (eqS v v')).1 (OE (eqS v v')).2 (HS x y) [] := by
  obtain ⟨n, hr⟩ := loop74 x y a b v v' hv hlen hn v.length 0 rfl (Nat.zero_le _)
  exact hr.ok

theorem s_ctr (a b : Bool) (v v' : List Slot) (hv : ∀ s ∈ v, ∀ p ∈ s.vals, Is x y p.m) : Ctr Tryz.prog 74 [rS a v, rS b v', fn75] (bl (eqS v v')) (HS x y) (HS x y) [] := by
  by_cases hn : v.length ≤ maxLen
  · refine Ctr.wk ?_ (.cons (.rsl (see_slots v)) (.cons (.rsl (see_slots v')) (.cons (.refl _) .nil)) : Wk _ [sS a v, sS b v', fn75])
    have hb := tree74 x y a b v v' (eqS v v')
    refine ctr_scW mixed (noneT_ok _) (fun _ => told_ok) hb ?_ (.sc _)
    rw [bne_of]
    by_cases h : v.length = v'.length
    · have h2 : ((v.length : Int) == (v'.length : Int)) = true := by rw [beq_iff_eq]; omega
      rw [h2, askL_of (ends74 x y a b v v' hv h hn)]; rfl
    · have h2 : ((v.length : Int) == (v'.length : Int)) = false := by rw [beq_eq_false_iff_ne]; omega
      rw [h2, eqS_len _ _ h]; rfl
  · exact .void hasBody74 (fun E vs hr => hn (rel_len (hr.2 0 _ rfl)))

theorem is_of (m : Msg) (hv : ∀ s ∈ m.slots, ∀ p ∈ s.vals, Is x y p.m) : Is x y m := by
  intro n
  have hb := tree73 x y m n (m.unknown == n.unknown) (eqS m.slots n.slots)
  rw [askCall_of (eqB_ctr m.unl n.unl m.unknown n.unknown []), askCall_of (s_ctr x y m.snl n.snl m.slots n.slots hv)] at hb
  refine ctr_scW mixed (noneT_ok _) (fun _ => told_ok) hb ?_ (.sc _)
  rw [eqM_P]
  cases m.unknown == n.unknown <;> simp [bl]

mutual
theorem is_msg : ∀ m : Msg, Is x y m
  | .mk a s b u => is_of x y (.mk a s b u) (is_slots s)
theorem is_slots : ∀ (l : List Slot), ∀ s ∈ l, ∀ p ∈ s.vals, Is x y p.m
  | [], s, h => by cases h
  | .mk n a v :: r, s, h => fun p hp => by
    rcases List.mem_cons.1 h with rfl | h
    · exact is_vals v p hp
    · exact is_slots r s h p hp
theorem is_vals : ∀ (l : List Val), ∀ p ∈ l, Is x y p.m
  | [], p, h => by cases h
  | .mk n a b m :: r, p, h => by
    rcases List.mem_cons.1 h with rfl | h
    · exact is_msg m
    · exact is_vals r p h
end

theorem tree30 (dx dy : Int) (u : Bool) : (evGL Tryz.prog noneT (fun _ => told Tryz.prog [] [⟨10, 0, i64 dx⟩, ⟨14, 0, i64 dy⟩, ⟨21, 4, bl u⟩]) 10 30 [.agg (msgP x), .agg (msgP y)] []).via ansA =
    bif askCall Tryz.prog 32 [.agg (msgP x)] [] (i64 dx) then (bif decide (dx ≤ 64) then
      (bif askCall Tryz.prog 32 [.agg (msgP y)] [] (i64 dy) then (bif decide (dy ≤ 64) then
        (bif askCall Tryz.prog 73 [.agg (msgP x), .agg (msgP y), .ptr 3 0] (HS x y) (bl u) then T u else none) else T false) else none) else T false) else none := by kernel_rfl
theorem tree31 (dx dy : Int) (u : Bool) : (evGL Tryz.prog noneT (fun _ => told Tryz.prog [] [⟨6, 0, i64 dx⟩, ⟨10, 0, i64 dy⟩, ⟨16, 0, bl u⟩]) 10 31 [.agg (msgP x), .agg (msgP y)] []).via ansA =
    bif askCall Tryz.prog 33 [.agg (msgP x)] [] (i64 dx) then (bif decide (dx ≤ 64) then
      (bif askCall Tryz.prog 33 [.agg (msgP y)] [] (i64 dy) then (bif decide (dy ≤ 64) then
        (bif askCall Tryz.prog 77 [.agg (msgP x), .agg (msgP y)] [] (bl u) then T u else none) else T false) else none) else T false) else none := by kernel_rfl
end
end Same73

/-- Alike, and neither deep. -/
def sameF (x y : Msg) : Bool := decide (deepP x ≤ 64) && decide (deepP y ≤ 64) && eqM x y

theorem lf_msgs (x y : Msg) : ∀ z ∈ [AV.agg (msgP x), .agg (msgP y)], LF z := by
  intro z hz
  simp only [List.mem_cons, List.mem_nil_iff, or_false] at hz
  rcases hz with rfl | rfl
  · exact .agg _ (lf_msg x)
  · exact .agg _ (lf_msg y)

theorem sameP_ctr (x y : Msg) (H : AHeap) : Ctr Tryz.prog 30 [.agg (msgP x), .agg (msgP y)] (.sc (.bool (sameF x y))) H H [] := by
  have hb := Same73.tree30 x y (deepP x) (deepP y) (eqM x y)
  rw [askCall_of (deepP_ctr x []), askCall_of (deepP_ctr y []), askCall_of (Same73.is_msg x y x y)] at hb
  refine ctr_scL mixed (noneT_ok _) (fun _ => told_ok) hb ?_ (lf_msgs x y) H
  unfold sameF
  cases decide (deepP x ≤ 64) <;> cases decide (deepP y ≤ 64) <;> simp [T]

theorem sameR_ctr (x y : Msg) (H : AHeap) : Ctr Tryz.prog 31 [.agg (msgP x), .agg (msgP y)] (.sc (.bool (sameF x y))) H H [] := by
  have hb := Same73.tree31 x y (deepR x) (deepR y) (eqM x y)
  rw [askCall_of (deepR_ctr x []), askCall_of (deepR_ctr y []), askCall_of (Same73.m77_ctr x y)] at hb
  refine ctr_scL mixed (noneT_ok _) (fun _ => told_ok) hb ?_ (lf_msgs x y) H
  unfold sameF
  rw [deep_eq, deep_eq]
  cases decide (deepR x ≤ 64) <;> cases decide (deepR y ≤ 64) <;> simp [T]

noncomputable def orc7 : OrcT := orElse (orAwake 14) (orKnown Tryz.prog 15 .bool)
theorem orc7_ok : OrcOk Tryz.prog orc7 := orElse_ok (orAwake_ok awake17_ctr) orKnown_ok
def few7 (m : Msg) : List AV := [.agg (msgP m)]

theorem same_tree (x y : Msg) (u u' : Bool) (d d' : Int) : (evGL Tryz.prog orc7 (fun _ => told Tryz.prog [] [⟨17, 0, .sc (.bool u)⟩, ⟨20, 0, .sc (.bool u')⟩, ⟨24, 0, i64 d⟩, ⟨26, 0, i64 d'⟩]) 10 7 [.agg (msgP x), .agg (msgP y)] []).via ansA =
    bif knownB Tryz.prog .bool 15 (few7 x) then (bif !(knownN Tryz.prog .bool 15 (few7 x) == 1) then T true else
      bif knownB Tryz.prog .bool 15 (few7 y) then (bif !(knownN Tryz.prog .bool 15 (few7 y) == 1) then T true else
        bif askCall Tryz.prog 30 [.agg (msgP x), .agg (msgP y)] [] (.sc (.bool u)) then (bif askCall Tryz.prog 31 [.agg (msgP x), .agg (msgP y)] [] (.sc (.bool u')) then
          (bif u == u' then (bif askCall Tryz.prog 32 [.agg (msgP x)] [] (i64 d) then (bif askCall Tryz.prog 33 [.agg (msgP x)] [] (i64 d') then T (d == d') else none) else none) else T false) else none) else none) else none) else none := by kernel_rfl

theorem same_ctr (x y : Msg) : Ctr Tryz.prog 7 [.agg (msgP x), .agg (msgP y)] (.sc (.bool true)) [] [] [] := by
  have hb := same_tree x y (sameF x y) (sameF x y) (deepP x) (deepR x)
  rw [show knownB Tryz.prog .bool 15 (few7 x) = true from knownB_of (few_known x), show knownB Tryz.prog .bool 15 (few7 y) = true from knownB_of (few_known y),
    askCall_of (sameP_ctr x y []), askCall_of (sameR_ctr x y []), askCall_of (deepP_ctr x []), askCall_of (deepR_ctr x [])] at hb
  refine ctr_scL mixed orc7_ok (fun _ => told_ok) hb ?_ (lf_msgs x y) []
  rw [deep_eq]
  cases (knownN Tryz.prog .bool 15 (few7 x) == 1) <;> cases (knownN Tryz.prog .bool 15 (few7 y) == 1) <;> simp [T]
end Go.Proofs.YtiipaliigpkfhaaGreat.Ab
