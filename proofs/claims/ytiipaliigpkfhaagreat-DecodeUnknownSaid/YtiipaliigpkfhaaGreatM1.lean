/- Numbers that are read: the program's and the document's. -/
import Derived.Test.YtiipaliigpkfhaaGreatK1
set_option linter.unusedVariables false
set_option linter.unusedSimpArgs false
set_option maxRecDepth 100000
namespace Go.Proofs.YtiipaliigpkfhaaGreat.Ab
open Go Go.RowKit Go.Proofs

/-- A row of bytes by a function. -/
def rowF (nl : Bool) (n : Nat) (x : Nat → Int) : AV := .rsl nl 1 n (fun i => [.sc (.int .u8 (x i))]) .non

def andI (k : IntKind) (x y : Int) : Int := k.wrap ((BitVec.ofInt k.bits x &&& BitVec.ofInt k.bits y).toNat : Int)
def trip (u k e : Int) : AV := .tup [.sc (.int .u64 u), .sc (.int .i64 k), .sc (.int .i64 e)]
def accI (acc c : Int) (i : Nat) : Int := orI .u64 acc (IntKind.wrap .u64 (IntKind.wrap .u64 (andI .u8 c 127) * 2 ^ (7 * i)))

def takeP (n : Nat) (x : Nat → Int) : Nat → Nat → Int → Option AV
  | 0, _, _ => none
  | k + 1, i, acc => bif ((i : Int) == (n : Int)) then some (trip 0 0 10) else bif ((i : Int) == 10) then some (trip 0 0 10) else
    bif decide (0 ≤ (i : Int) ∧ (i : Int) < (n : Int)) then
      bif (bif ((i : Int) == 9) then decide (x i > 1) else false) then some (trip 0 0 10) else
        bif (andI .u8 (x i) 128 != 0) then takeP n x k (i + 1) (accI acc (x i) i) else some (trip (accI acc (x i) i) (i + 1 : Nat) 0)
    else none

def takeR (n : Nat) (x : Nat → Int) : Nat → Nat → Int → Option AV
  | 0, _, _ => none
  | k + 1, i, acc => bif decide ((i : Int) < (n : Int)) then
      (bif decide ((i : Int) < 10) then
        (bif ((i : Int) == 9) then
          bif decide (0 ≤ (i : Int) ∧ (i : Int) < (n : Int)) then
            bif decide (x i > 1) then some (trip 0 0 10) else
              bif decide (0 ≤ (i : Int) ∧ (i : Int) < (n : Int)) then bif decide (0 ≤ (i : Int) ∧ (i : Int) < (n : Int)) then bif decide (x i < 128) then some (trip (accI acc (x i) i) (i + 1 : Nat) 0) else takeR n x k (i + 1) (accI acc (x i) i) else none else none
          else none
        else bif decide (0 ≤ (i : Int) ∧ (i : Int) < (n : Int)) then bif decide (0 ≤ (i : Int) ∧ (i : Int) < (n : Int)) then bif decide (x i < 128) then some (trip (accI acc (x i) i) (i + 1 : Nat) 0) else takeR n x k (i + 1) (accI acc (x i) i) else none else none)
      else some (trip 0 0 10))
    else some (trip 0 0 10)

theorem takeP_tree (nl : Bool) (n : Nat) (x : Nat → Int) : (evGT Tryz.prog noneT 14 225 [rowF nl n x] []).via ansA = takeP n x 11 0 0 := by kernel_rfl
theorem takeR_tree (nl : Bool) (n : Nat) (x : Nat → Int) : (evGT Tryz.prog noneT 14 156 [rowF nl n x] []).via ansA = takeR n x 11 0 0 := by kernel_rfl

theorem hi_bit : ∀ c : Fin 256, (andI .u8 (c.val : Int) 128 != 0) = !(decide ((c.val : Int) < 128)) := by decide +kernel

theorem hi_bit' {c : Int} (h0 : 0 ≤ c) (h1 : c < 256) : (andI .u8 c 128 != 0) = !(decide (c < 128)) := by
  have := hi_bit ⟨c.toNat, by omega⟩
  have e : (((⟨c.toNat, by omega⟩ : Fin 256).val : Nat) : Int) = c := by show ((c.toNat : Nat) : Int) = c; omega
  rwa [e] at this

theorem accI_range (acc c : Int) (i : Nat) : 0 ≤ accI acc c i ∧ accI acc c i < 18446744073709551616 := by
  unfold accI orI
  rw [wrap_u64']
  omega

/-- What a number that is read comes to. -/
def TakeIs (n : Nat) (i : Nat) (a : AV) : Prop := (∃ (u : Int) (k : Nat), a = trip u k 0 ∧ i < k ∧ k ≤ n ∧ k ≤ 10 ∧ 0 ≤ u ∧ u < 18446744073709551616) ∨ a = trip 0 0 10

theorem take_both (n : Nat) (x : Nat → Int) (hx : ∀ j, j < n → 0 ≤ x j ∧ x j < 256) : ∀ (k i : Nat) (acc : Int), i + k = 11 → i ≤ 10 → i ≤ n → ∃ a, takeP n x k i acc = some a ∧ takeR n x k i acc = some a ∧ TakeIs n i a
  | 0, i, acc, hk, hi, _ => absurd hk (by omega)
  | k + 1, i, acc, hk, hi, hn => by
    by_cases h0 : i = n
    · subst h0
      have e4 : decide ((i : Int) < (i : Int)) = false := by simp
      refine ⟨trip 0 0 10, ?_, ?_, .inr rfl⟩
      · unfold takeP; simp
      · unfold takeR; rw [e4]; rfl
    · have e1 : ((i : Int) == (n : Int)) = false := by simp; omega
      have e4 : decide ((i : Int) < (n : Int)) = true := by simp; omega
      by_cases h1 : i = 10
      · subst h1
        refine ⟨trip 0 0 10, ?_, ?_, .inr rfl⟩
        · unfold takeP; rw [e1]; rfl
        · unfold takeR; rw [e4]; rfl
      · have e2 : ((i : Int) == 10) = false := by simp; omega
        have e3 : decide (0 ≤ (i : Int) ∧ (i : Int) < (n : Int)) = true := by simp; omega
        have e5 : decide ((i : Int) < 10) = true := by simp; omega
        obtain ⟨hb0, hb1⟩ := hx i (by omega)
        have hb := hi_bit' hb0 hb1
        have go : ∃ a, (bif decide (x i < 128) then some (trip (accI acc (x i) i) (i + 1 : Nat) 0) else takeP n x k (i + 1) (accI acc (x i) i)) = some a ∧ (bif decide (x i < 128) then some (trip (accI acc (x i) i) (i + 1 : Nat) 0) else takeR n x k (i + 1) (accI acc (x i) i)) = some a ∧ TakeIs n i a := by
          by_cases hs : x i < 128
          · rw [decide_eq_true hs]
            exact ⟨_, rfl, rfl, .inl ⟨_, i + 1, rfl, by omega, by omega, by omega, (accI_range _ _ _).1, (accI_range _ _ _).2⟩⟩
          · rw [decide_eq_false hs]
            obtain ⟨a, h1, h2, h3⟩ := take_both n x hx k (i + 1) (accI acc (x i) i) (by omega) (by omega) (by omega)
            refine ⟨a, h1, h2, ?_⟩
            rcases h3 with ⟨u, kk, rfl, q1, q2, q3⟩ | rfl
            · exact .inl ⟨u, kk, rfl, by omega, q2, q3⟩
            · exact .inr rfl
        obtain ⟨a, g1, g2, g3⟩ := go
        by_cases h9 : i = 9
        · have e6 : ((i : Int) == 9) = true := by simp; omega
          by_cases hc : x i > 1
          · refine ⟨trip 0 0 10, ?_, ?_, .inr rfl⟩
            · unfold takeP; simp only [e1, e2, e3, e6, decide_eq_true hc, cond_true, cond_false]
            · unfold takeR; simp only [e4, e5, e3, e6, decide_eq_true hc, cond_true, cond_false]
          · refine ⟨a, ?_, ?_, g3⟩
            · unfold takeP
              simp only [e1, e2, e3, e6, decide_eq_false hc, hb, cond_true, cond_false]
              rw [← g1]
              cases decide (x i < 128) <;> rfl
            · unfold takeR
              simp only [e4, e5, e3, e6, decide_eq_false hc, cond_true, cond_false]
              exact g2
        · have e6 : ((i : Int) == 9) = false := by simp; omega
          refine ⟨a, ?_, ?_, g3⟩
          · unfold takeP
            simp only [e1, e2, e3, e6, hb, cond_true, cond_false]
            rw [← g1]
            cases decide (x i < 128) <;> rfl
          · unfold takeR
            simp only [e4, e5, e3, e6, cond_true, cond_false]
            exact g2

theorem take_ex (n : Nat) (x : Nat → Int) : ∃ a : AV, (∀ j, j < n → 0 ≤ x j ∧ x j < 256) → takeP n x 11 0 0 = some a ∧ takeR n x 11 0 0 = some a ∧ TakeIs n 0 a := by
  by_cases hx : ∀ j, j < n → 0 ≤ x j ∧ x j < 256
  · obtain ⟨a, h⟩ := take_both n x hx 11 0 0 rfl (by omega) (by omega)
    exact ⟨a, fun _ => h⟩
  · exact ⟨.any, fun h => absurd h hx⟩

/-- A number that is read. -/
noncomputable def takeA (n : Nat) (x : Nat → Int) : AV := (take_ex n x).choose
theorem takeA_is {n : Nat} {x : Nat → Int} (hx : ∀ j, j < n → 0 ≤ x j ∧ x j < 256) : takeP n x 11 0 0 = some (takeA n x) ∧ takeR n x 11 0 0 = some (takeA n x) ∧ TakeIs n 0 (takeA n x) := (take_ex n x).choose_spec hx

theorem lf_trip (u k e : Int) : LF (trip u k e) := .tup _ (fun x hx => by
  simp only [List.mem_cons, List.not_mem_nil, or_false] at hx
  rcases hx with rfl | rfl | rfl <;> exact .sc _)

theorem takeA_lf {n : Nat} {x : Nat → Int} (hx : ∀ j, j < n → 0 ≤ x j ∧ x j < 256) : LF (takeA n x) ∧ lbA 0 (takeA n x) = true := by
  rcases (takeA_is hx).2.2 with ⟨u, k, e, _⟩ | e <;> rw [e] <;> exact ⟨lf_trip _ _ _, rfl⟩

theorem ctr_lf0 {P : Program} (hm : P.follows .mixedOrders = true) {orc : OrcT} (horc : OrcOk P orc) {lo : FuncId → LoopO} (hl : ∀ g, LoopsOk P (lo g)) {n : Nat} {g : FuncId} {args : List AV} {F : Option AV} {u : AV} (h : (evGL P orc lo n g args []).via ansA = F) (hF : F = some u) (hu : LF u) (hu0 : lbA 0 u = true) (hargs : lbAs 0 args = true) (H : AHeap) : Ctr P g args u H H [] := by
  obtain ⟨r, hr, he⟩ := via_some h hF
  have hctr := evGL_ok hm horc hl n g args [] r hr
  unfold ansA at he
  rw [he] at hctr
  have h0 : Ctr P g args u [] r.2.1 [] := ⟨hctr.1, fun E w0 w vs hg hr => (hctr.2.1 E w0 w vs hg hr).mono (fun e w' ⟨E', re, ex, g⟩ => ⟨E', re, ex.weaken (Nat.le_refl _) (fun l hl _ => absurd hl (Nat.not_lt_zero _)), g⟩), hctr.2.2.1, fun l hl => absurd hl (Nat.not_lt_zero _)⟩
  exact ctr_any h0 hu hu0 hargs H

theorem takeP_ctr {nl : Bool} {n : Nat} {x : Nat → Int} (hx : ∀ j, j < n → 0 ≤ x j ∧ x j < 256) (H : AHeap) : Ctr Tryz.prog 225 [rowF nl n x] (takeA n x) H H [] :=
  ctr_lf0 mixed (noneT_ok _) (fun _ => noLoop_ok) (takeP_tree nl n x) (takeA_is hx).1 (takeA_lf hx).1 (takeA_lf hx).2 rfl H
theorem takeR_ctr {nl : Bool} {n : Nat} {x : Nat → Int} (hx : ∀ j, j < n → 0 ≤ x j ∧ x j < 256) (H : AHeap) : Ctr Tryz.prog 156 [rowF nl n x] (takeA n x) H H [] :=
  ctr_lf0 mixed (noneT_ok _) (fun _ => noLoop_ok) (takeR_tree nl n x) (takeA_is hx).2.1 (takeA_lf hx).1 (takeA_lf hx).2 rfl H
end Go.Proofs.YtiipaliigpkfhaaGreat.Ab
