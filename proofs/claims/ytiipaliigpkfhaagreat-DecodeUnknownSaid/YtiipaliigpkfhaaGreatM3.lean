/- Fields that are read: what is answered, case by case. -/
import Derived.Test.YtiipaliigpkfhaaGreatM2
set_option linter.unusedVariables false
set_option linter.unusedSimpArgs false
set_option maxRecDepth 100000
namespace Go.Proofs.YtiipaliigpkfhaaGreat.Ab
open Go Go.RowKit Go.Proofs

theorem wi {x : Int} (h0 : -9223372036854775808 ≤ x) (h1 : x < 9223372036854775808) : IntKind.wrap .i64 x = x := by
  simp only [IntKind.wrap, IntKind.bits, IntKind.signed]
  simp
  split <;> omega
theorem wu {x : Int} (h0 : 0 ≤ x) (h1 : x < 18446744073709551616) : IntKind.wrap .u64 x = x := by rw [wrap_u64']; omega

theorem and7 {t : Int} (h0 : 0 ≤ t) (h1 : t < 18446744073709551616) : andI .u64 t 7 = t % 8 := by
  unfold andI
  have e : (BitVec.ofInt (IntKind.bits .u64) t &&& BitVec.ofInt (IntKind.bits .u64) 7).toNat = t.toNat % 8 := by
    rw [BitVec.toNat_and]
    have a : (BitVec.ofInt (IntKind.bits .u64) t).toNat = t.toNat := by
      show (BitVec.ofInt 64 t).toNat = t.toNat
      rw [BitVec.toNat_ofInt]
      omega
    have b : (BitVec.ofInt (IntKind.bits .u64) 7).toNat = 7 := by decide
    rw [a, b]
    exact Nat.and_two_pow_sub_one_eq_mod _ 3
  rw [e, wrap_u64']
  omega

/-! ### A field, told -/
structure RawD where
  num : Int
  kd : Int
  nn : Int
  m : Nat
  y : Nat → Int

def RawD.cells (nl : Bool) (r : RawD) : List AV := [i64 r.num, i64 r.kd, .sc (.int .u64 r.nn), rowF nl r.m r.y]

inductive TkR where
  | err (e : Int)
  | ok (r : RawD) (k : Nat)

def tkA (f : RawD → Bool) : TkR → AV
  | .err e => .tup [.agg [i64 0, i64 0, .sc (.int .u64 0), rowF true 0 (fun _ => 0)], i64 0, i64 e]
  | .ok r k => .tup [.agg (r.cells (f r)), i64 k, i64 0]

structure RawOk (r : RawD) : Prop where
  num0 : 1 ≤ r.num
  num1 : r.num < 536870912
  kd : r.kd = 0 ∨ r.kd = 1 ∨ r.kd = 2 ∨ r.kd = 5
  nn0 : 0 ≤ r.nn
  nn1 : r.nn < 18446744073709551616
  m : r.m ≤ 500
  y : ∀ j, j < r.m → 0 ≤ r.y j ∧ r.y j < 256

def TkOk (n : Nat) : TkR → Prop
  | .err e => e = 10 ∨ e = 20 ∨ e = 21
  | .ok r k => RawOk r ∧ 1 ≤ k ∧ k ≤ n

def nlP (r : RawD) : Bool := !(r.kd == 2)
def nlR (r : RawD) : Bool := r.m == 0

/-- What the two functions answer to bytes. -/
def Tk (n : Nat) (x : Nat → Int) (r : TkR) : Prop :=
  TkOk n r ∧ (∀ H, Ctr Tryz.prog 216 [rowF false n x] (tkA nlP r) H H []) ∧ ∀ nl H, Ctr Tryz.prog 94 [rowF nl n x] (tkA nlR r) H H []

theorem lf_tkA (f : RawD → Bool) (r : TkR) : LF (tkA f r) ∧ lbA 0 (tkA f r) = true := by
  have two : ∀ a b c : AV, LF a → LF b → LF c → LF (.tup [a, b, c]) := fun a b c ha hb hc => .tup _ (fun x hx => by
    simp only [List.mem_cons, List.not_mem_nil, or_false] at hx
    rcases hx with rfl | rfl | rfl <;> assumption)
  have four : ∀ a b c d : AV, LF a → LF b → LF c → LF d → LF (.agg [a, b, c, d]) := fun a b c d ha hb hc hd => .agg _ (fun x hx => by
    simp only [List.mem_cons, List.not_mem_nil, or_false] at hx
    rcases hx with rfl | rfl | rfl | rfl <;> assumption)
  cases r with
  | err e => exact ⟨two _ _ _ (four _ _ _ _ (.sc _) (.sc _) (.sc _) (lf_rowF _ _ _)) (.sc _) (.sc _), rfl⟩
  | ok r k => exact ⟨two _ _ _ (four _ _ _ _ (.sc _) (.sc _) (.sc _) (lf_rowF _ _ _)) (.sc _) (.sc _), rfl⟩

theorem ctr_lfk {P : Program} (hm : P.follows .mixedOrders = true) {orc : OrcT} (horc : OrcOk P orc) {lo : FuncId → LoopO} (hl : ∀ g, LoopsOk P (lo g)) {n : Nat} {g : FuncId} {args : List AV} {gl : AV × AHeap × List Nat → AV} {F : Option AV} {u y : AV} (h : (evGL P orc lo n g args []).via gl = F) (hF : F = some u) (hgl : ∀ r, Wk1 r.1 (gl r)) (hw : Wk1 u y) (hy : LF y) (hy0 : lbA 0 y = true) (hargs : lbAs 0 args = true) (H : AHeap) : Ctr P g args y H H [] := by
  obtain ⟨r, hr, he⟩ := via_some h hF
  have hctr := evGL_ok hm horc hl n g args [] r hr
  have hctr := hctr.ansWk ((he ▸ hgl r).trans hw)
  have h0 : Ctr P g args y [] r.2.1 [] := ⟨hctr.1, fun E w0 w vs hg hr => (hctr.2.1 E w0 w vs hg hr).mono (fun e w' ⟨E', re, ex, g⟩ => ⟨E', re, ex.weaken (Nat.le_refl _) (fun l hl _ => absurd hl (Nat.not_lt_zero _)), g⟩), hctr.2.2.1, fun l hl => absurd hl (Nat.not_lt_zero _)⟩
  exact ctr_any h0 hy hy0 hargs H

theorem tk_close {n : Nat} {x : Nat → Int} {r : TkR} (ok : TkOk n r) (tag e u e2 N : Int) (k k2 : Nat) {vP vR : AV}
    (hP : (bif askCall Tryz.prog 225 [rowF false n x] [] (trip tag k e) then bif (e != 0) then some (errA e) else bodP false n x tag u e2 N k k2 (IntKind.wrap .i64 (tag.fdiv (2 ^ 3))) (IntKind.wrap .i64 (andI .u64 tag 7)) else none) = some vP) (wP : Wk1 vP (tkA nlP r))
    (hR : ∀ nl, (bif askCall Tryz.prog 156 [rowF nl n x] [] (trip tag k e) then bif (e != 0) then some (errA e) else bif decide (tag ≥ 4294967296) then some (errA 20) else bif decide (tag < 8) then some (errA 20) else
      bodR nl n x u e2 N k k2 (IntKind.wrap .i64 (IntKind.wrap .u64 (tag.tdiv 8))) (IntKind.wrap .i64 (tag.tmod 8)) else none) = some vR) (wR : Wk1 vR (tkA nlR r)) : Tk n x r := by
  refine ⟨ok, fun H => ?_, fun nl H => ?_⟩
  · exact ctr_lfk mixed (noneT_ok _) tkL_ok (takeP2_tree n x tag e u e2 N k k2) hP (fun r => seeT_wk r.1) wP (lf_tkA _ _).1 (lf_tkA _ _).2 rfl H
  · exact ctr_lfk mixed (noneT_ok _) tkL_ok (takeR2_tree nl n x tag e u e2 N k k2) (hR nl) (fun r => seeT_wk r.1) wR (lf_tkA _ _).1 (lf_tkA _ _).2 rfl H

theorem wk_nilB : Wk1 nilB (rowF true 0 (fun _ => 0)) := by
  intro E v hr
  cases hr with
  | rnil => exact .rnil 1 _ .non (.inl rfl)
theorem wk_nilB' (m : Nat) (y : Nat → Int) (h : m = 0) : Wk1 nilB (rowF true m y) := by
  subst h
  intro E v hr
  cases hr with
  | rnil => exact .rnil 1 _ .non (.inl rfl)
theorem wk_okA {num kd nn : Int} {B B' : AV} {k k' : Int} (h : Wk1 B B') (hk : k = k') : Wk1 (okA num kd nn B k) (.tup [.agg [i64 num, i64 kd, .sc (.int .u64 nn), B'], i64 k', i64 0]) := by
  subst hk
  exact .tup (.cons (.agg (.cons (.refl _) (.cons (.refl _) (.cons (.refl _) (.cons h .nil))))) (.cons (.refl _) (.cons (.refl _) .nil)))
theorem wk_errA (f : RawD → Bool) (e : Int) : Wk1 (errA e) (tkA f (.err e)) :=
  .tup (.cons (.agg (.cons (.refl _) (.cons (.refl _) (.cons (.refl _) (.cons wk_nilB .nil))))) (.cons (.refl _) (.cons (.refl _) .nil)))

section
variable {n : Nat} {x : Nat → Int}
abbrev Bytes (n : Nat) (x : Nat → Int) : Prop := ∀ j, j < n → 0 ≤ x j ∧ x j < 256

theorem askP {nl : Bool} (hx : Bytes n x) {a : AV} (h : takeA n x = a) : askCall Tryz.prog 225 [rowF nl n x] [] a = true := askCall_of (h ▸ takeP_ctr hx [])
theorem askR {nl : Bool} (hx : Bytes n x) {a : AV} (h : takeA n x = a) : askCall Tryz.prog 156 [rowF nl n x] [] a = true := askCall_of (h ▸ takeR_ctr hx [])

/-- No number. -/
theorem tk_no (hx : Bytes n x) (h : takeA n x = trip 0 0 10) : Tk n x (.err 10) := by
  have h : takeA n x = trip 0 ((0 : Nat) : Int) 10 := h
  refine tk_close (.inl rfl) 0 10 0 0 0 0 0 (vP := errA 10) (vR := errA 10) ?_ (wk_errA _ _) (fun nl => ?_) (wk_errA _ _)
  · rw [askP hx h]; rfl
  · rw [askR hx h]; rfl

variable {tag : Int} {k : Nat}

theorem tag_facts (h0 : 0 ≤ tag) (h1 : tag < 18446744073709551616) : IntKind.wrap .i64 (tag.fdiv (2 ^ 3)) = tag / 8 ∧ IntKind.wrap .i64 (andI .u64 tag 7) = tag % 8 ∧
    IntKind.wrap .i64 (IntKind.wrap .u64 (tag.tdiv 8)) = tag / 8 ∧ IntKind.wrap .i64 (tag.tmod 8) = tag % 8 ∧ tag.fdiv (2 ^ 32) = tag / 4294967296 := by
  have e1 : tag.fdiv (2 ^ 3) = tag / 8 := by rw [Int.fdiv_eq_ediv_of_nonneg _ (by decide)]; rfl
  have e2 : tag.fdiv (2 ^ 32) = tag / 4294967296 := by rw [Int.fdiv_eq_ediv_of_nonneg _ (by decide)]; rfl
  have e3 : tag.tdiv 8 = tag / 8 := Int.tdiv_eq_ediv_of_nonneg h0
  have e4 : tag.tmod 8 = tag % 8 := Int.tmod_eq_emod_of_nonneg h0
  refine ⟨?_, ?_, ?_, ?_, e2⟩
  · rw [e1]; exact wi (by omega) (by omega)
  · rw [and7 h0 h1]; exact wi (by omega) (by omega)
  · rw [e3, wu (by omega) (by omega)]; exact wi (by omega) (by omega)
  · rw [e4]; exact wi (by omega) (by omega)

/-- A tag that is none. -/
theorem tk_bad (hx : Bytes n x) (h : takeA n x = trip tag k 0) (h0 : 0 ≤ tag) (h1 : tag < 18446744073709551616) (hk : k ≤ n) (hb : 4294967296 ≤ tag ∨ tag < 8 ∨ (tag % 8 ≠ 0 ∧ tag % 8 ≠ 1 ∧ tag % 8 ≠ 2 ∧ tag % 8 ≠ 5)) : Tk n x (.err 20) := by
  obtain ⟨f1, f2, f3, f4, f5⟩ := tag_facts h0 h1
  refine tk_close (.inr (.inl rfl)) tag 0 0 0 0 k 0 (vP := errA 20) (vR := errA 20) ?_ (wk_errA _ _) (fun nl => ?_) (wk_errA _ _)
  · rw [askP hx h, f1, f2]
    show bodP false n x tag 0 0 0 k 0 (tag / 8) (tag % 8) = some (errA 20)
    by_cases hc : 4294967296 ≤ tag ∨ tag < 8
    · have hz : ∀ z, chkP tag (tag / 8) z = some (errA 20) := by
        intro z
        unfold chkP
        rw [f5]
        rcases hc with hc | hc
        · have : (tag / 4294967296 != 0) = true := by simp; omega
          rw [this]; rfl
        · have : (tag / 8 == 0) = true := by simp; omega
          rw [this]
          cases (tag / 4294967296 != 0) <;> rfl
      unfold bodP
      simp only [hz]
      cases (tag % 8 == 1) <;> cases (tag % 8 == 5) <;> cases (tag % 8 == 0) <;> cases (tag % 8 == 2) <;> rfl
    · have hb' : tag % 8 ≠ 0 ∧ tag % 8 ≠ 1 ∧ tag % 8 ≠ 2 ∧ tag % 8 ≠ 5 := by omega
      unfold bodP chkP
      rw [beq_eq_false_iff_ne.2 hb'.1, beq_eq_false_iff_ne.2 hb'.2.1, beq_eq_false_iff_ne.2 hb'.2.2.1, beq_eq_false_iff_ne.2 hb'.2.2.2]
      cases (tag.fdiv (2 ^ 32) != 0) <;> cases (tag / 8 == 0) <;> rfl
  · rw [askR hx h, f3, f4]
    show (bif decide (tag ≥ 4294967296) then some (errA 20) else bif decide (tag < 8) then some (errA 20) else bodR nl n x 0 0 0 k 0 (tag / 8) (tag % 8)) = some (errA 20)
    by_cases hc : 4294967296 ≤ tag
    · rw [decide_eq_true hc]; rfl
    · rw [decide_eq_false hc]
      by_cases hc2 : tag < 8
      · rw [decide_eq_true hc2]; rfl
      · rw [decide_eq_false hc2]
        have hb' : tag % 8 ≠ 0 ∧ tag % 8 ≠ 1 ∧ tag % 8 ≠ 2 ∧ tag % 8 ≠ 5 := by omega
        unfold bodR
        rw [beq_eq_false_iff_ne.2 hb'.1, beq_eq_false_iff_ne.2 hb'.2.1, beq_eq_false_iff_ne.2 hb'.2.2.1, beq_eq_false_iff_ne.2 hb'.2.2.2]
        rfl

section
variable (nl : Bool) (u e2 N num : Int) (k2 : Nat)
theorem bodP1 : bodP nl n x tag u e2 N k k2 num 1 = chkP tag num (sliceC n k (fixT nl n x N k 226 num 1 8)) := by kernel_rfl
theorem bodP5 : bodP nl n x tag u e2 N k k2 num 5 = chkP tag num (sliceC n k (fixT nl n x N k 226 num 5 4)) := by kernel_rfl
theorem bodP0 : bodP nl n x tag u e2 N k k2 num 0 = chkP tag num (sliceC n k (varT nl n x u e2 k k2 225 num 0 (.rsl false 1 0 (fun _ => []) .non))) := by kernel_rfl
theorem bodP2 : bodP nl n x tag u e2 N k k2 num 2 = chkP tag num (sliceC n k (varT nl n x u e2 k k2 225 num 2 (.rsl false 1 0 (fun _ => []) .non))) := by kernel_rfl
theorem bodR1 : bodR nl n x u e2 N k k2 num 1 = sliceC n k (fixT nl n x N k 158 num 1 8) := by kernel_rfl
theorem bodR5 : bodR nl n x u e2 N k k2 num 5 = sliceC n k (fixT nl n x N k 158 num 5 4) := by kernel_rfl
theorem bodR0 : bodR nl n x u e2 N k k2 num 0 = sliceC n k (varT nl n x u e2 k k2 156 num 0 nilB) := by kernel_rfl
theorem bodR2 : bodR nl n x u e2 N k k2 num 2 = sliceC n k (varT nl n x u e2 k k2 156 num 2 nilB) := by kernel_rfl
end

theorem chk_ok (h0 : 8 ≤ tag) (h1 : tag < 4294967296) (z : Option AV) : chkP tag (tag / 8) z = z := by
  unfold chkP
  rw [(tag_facts (by omega) (by omega)).2.2.2.2]
  have a : (tag / 4294967296 != 0) = false := by simp; omega
  have b : (tag / 8 == 0) = false := by simp; omega
  rw [a, b]; rfl
theorem slice_ok (h : k ≤ n) (z : Option AV) : sliceC n k z = z := by
  unfold sliceC
  rw [decide_eq_true (by omega)]; rfl

/-- What stands ahead of the worth is gone through. -/
theorem tk_good (hx : Bytes n x) (h : takeA n x = trip tag k 0) (h0 : 8 ≤ tag) (h1 : tag < 4294967296) {r : TkR} (ok : TkOk n r) (u e2 N : Int) (k2 : Nat) {vP vR : AV}
    (hP : bodP false n x tag u e2 N k k2 (tag / 8) (tag % 8) = some vP) (wP : Wk1 vP (tkA nlP r)) (hR : ∀ nl, bodR nl n x u e2 N k k2 (tag / 8) (tag % 8) = some vR) (wR : Wk1 vR (tkA nlR r)) : Tk n x r := by
  obtain ⟨f1, f2, f3, f4, f5⟩ := tag_facts (tag := tag) (by omega) (by omega)
  refine tk_close ok tag 0 u e2 N k k2 (vP := vP) (vR := vR) ?_ wP (fun nl => ?_) wR
  · rw [askP hx h, f1, f2]; exact hP
  · rw [askR hx h, f3, f4, decide_eq_false (by omega : ¬ tag ≥ 4294967296), decide_eq_false (by omega : ¬ tag < 8)]; exact hR nl

theorem shift_bytes (hx : Bytes n x) (j m : Nat) (hm : m + j ≤ n) : Bytes m (fun i => x (i + j)) := fun i hi => hx (i + j) (by omega)

/-- Worths of full length. -/
theorem tk_fix (hn : n ≤ 500) (hx : Bytes n x) (h : takeA n x = trip tag k 0) (h0 : 8 ≤ tag) (h1 : tag < 4294967296) (hk0 : 1 ≤ k) (hk : k ≤ n) (hkd : tag % 8 = 1 ∨ tag % 8 = 5) : ∃ r, Tk n x r := by
  have body : ∀ (kd : Int) (sz : Nat), tag % 8 = kd → (kd = 1 ∨ kd = 5) → sz ≤ 8 → (∀ N, bodP false n x tag 0 0 N k 0 (tag / 8) kd = fixT false n x N k 226 (tag / 8) kd sz) → (∀ nl N, bodR nl n x 0 0 N k 0 (tag / 8) kd = fixT nl n x N k 158 (tag / 8) kd sz) →
      (∀ nl, Ctr Tryz.prog 226 [rowF nl sz (fun i => x (i + k))] (.sc (.int .u64 (unf (fun i => x (i + k)) sz))) [] [] []) → (∀ nl, Ctr Tryz.prog 158 [rowF nl sz (fun i => x (i + k))] (.sc (.int .u64 (unf (fun i => x (i + k)) sz))) [] [] []) → ∃ r, Tk n x r := by
    intro kd sz hkd hk15 hsz bP bR cP cR
    by_cases hs : n - k < sz
    · refine ⟨.err 21, tk_good hx h h0 h1 (.inr (.inr rfl)) 0 0 0 0 (vP := errA 21) (vR := errA 21) ?_ (wk_errA _ _) (fun nl => ?_) (wk_errA _ _)⟩
      · rw [hkd, bP]; unfold fixT; rw [decide_eq_true (by omega : ((n - k : Nat) : Int) < (sz : Int))]; rfl
      · rw [hkd, bR]; unfold fixT; rw [decide_eq_true (by omega : ((n - k : Nat) : Int) < (sz : Int))]; rfl
    · let r : RawD := ⟨tag / 8, kd, unf (fun i => x (i + k)) sz, 0, fun _ => 0⟩
      have hr := unf_range (fun i => x (i + k)) sz
      have d1 : decide (((n - k : Nat) : Int) < (sz : Int)) = false := decide_eq_false (by omega)
      have d2 : decide ((0 : Int) ≤ 0 ∧ (0 : Int) ≤ (sz : Int) ∧ (sz : Int) ≤ ((n - k : Nat) : Int)) = true := decide_eq_true (by omega)
      have ek : IntKind.wrap .i64 ((k : Int) + (sz : Int)) = ((k + sz : Nat) : Int) := by rw [wi (by omega) (by omega)]; simp
      have v : ∀ B B', Wk1 B B' → Wk1 (okA (tag / 8) kd (unf (fun i => x (i + k)) sz) B (IntKind.wrap .i64 ((k : Int) + (sz : Int)))) (.tup [.agg [i64 (tag / 8), i64 kd, .sc (.int .u64 (unf (fun i => x (i + k)) sz)), B'], i64 ((k + sz : Nat) : Int), i64 0]) := fun B B' hB => wk_okA hB ek
      refine ⟨.ok r (k + sz), tk_good hx h h0 h1 ⟨⟨by show 1 ≤ tag / 8; omega, by show tag / 8 < 536870912; omega, by show kd = 0 ∨ kd = 1 ∨ kd = 2 ∨ kd = 5; omega, hr.1, hr.2, by show 0 ≤ 500; omega, fun j hj => absurd hj (Nat.not_lt_zero _)⟩, by omega, by omega⟩ 0 0 (unf (fun i => x (i + k)) sz) 0 (vP := okA (tag / 8) kd (unf (fun i => x (i + k)) sz) nilB (IntKind.wrap .i64 ((k : Int) + (sz : Int)))) (vR := okA (tag / 8) kd (unf (fun i => x (i + k)) sz) nilB (IntKind.wrap .i64 ((k : Int) + (sz : Int)))) ?_ ?_ (fun nl => ?_) ?_⟩
      · rw [hkd, bP]; unfold fixT; rw [d1, d2, askCall_of (cP false)]; rfl
      · have e : nlP r = true := by rcases hk15 with rfl | rfl <;> rfl
        show Wk1 _ (.tup [.agg (r.cells (nlP r)), i64 ((k + sz : Nat) : Int), i64 0])
        rw [e]
        exact v _ _ wk_nilB
      · rw [hkd, bR]; unfold fixT; rw [d1, d2, askCall_of (cR nl)]; rfl
      · exact v _ _ wk_nilB
  rcases hkd with hkd | hkd
  · exact body 1 8 hkd (.inl rfl) (by omega) (fun N => by rw [bodP1, chk_ok h0 h1, slice_ok hk]) (fun nl N => by rw [bodR1, slice_ok hk]) (fun nl => (unfP_ctr nl _ []).1) (fun nl => (unfR_ctr nl _ []).1)
  · exact body 5 4 hkd (.inr rfl) (by omega) (fun N => by rw [bodP5, chk_ok h0 h1, slice_ok hk]) (fun nl N => by rw [bodR5, slice_ok hk]) (fun nl => (unfP_ctr nl _ []).2) (fun nl => (unfR_ctr nl _ []).2)

/-- No number behind the tag. -/
theorem tk_no2 (hx : Bytes n x) (h : takeA n x = trip tag k 0) (h0 : 8 ≤ tag) (h1 : tag < 4294967296) (hk : k ≤ n) (hkd : tag % 8 = 0 ∨ tag % 8 = 2) (h2 : takeA (n - k) (fun i => x (i + k)) = trip 0 0 10) : Tk n x (.err 10) := by
  have hx2 := shift_bytes hx k (n - k) (by omega)
  have h2 : takeA (n - k) (fun i => x (i + k)) = trip 0 ((0 : Nat) : Int) 10 := h2
  refine tk_good hx h h0 h1 (.inl rfl) 0 10 0 0 (vP := errA 10) (vR := errA 10) ?_ (wk_errA _ _) (fun nl => ?_) (wk_errA _ _)
  · rcases hkd with hkd | hkd
    · rw [hkd, bodP0, chk_ok h0 h1, slice_ok hk]; unfold varT; rw [askP hx2 h2]; rfl
    · rw [hkd, bodP2, chk_ok h0 h1, slice_ok hk]; unfold varT; rw [askP hx2 h2]; rfl
  · rcases hkd with hkd | hkd
    · rw [hkd, bodR0, slice_ok hk]; unfold varT; rw [askR hx2 h2]; rfl
    · rw [hkd, bodR2, slice_ok hk]; unfold varT; rw [askR hx2 h2]; rfl

variable {u : Int} {k2 : Nat}

/-- A number. -/
theorem tk_var (hn : n ≤ 500) (hx : Bytes n x) (h : takeA n x = trip tag k 0) (h0 : 8 ≤ tag) (h1 : tag < 4294967296) (hk0 : 1 ≤ k) (hk : k ≤ n) (hkd : tag % 8 = 0) (h2 : takeA (n - k) (fun i => x (i + k)) = trip u k2 0) (hk2 : k2 ≤ n - k) (hu0 : 0 ≤ u) (hu1 : u < 18446744073709551616) :
    Tk n x (.ok ⟨tag / 8, 0, u, 0, fun _ => 0⟩ (k + k2)) := by
  have hx2 := shift_bytes hx k (n - k) (by omega)
  have ek : IntKind.wrap .i64 ((k : Int) + (k2 : Int)) = ((k + k2 : Nat) : Int) := by rw [wi (by omega) (by omega)]; simp
  refine tk_good hx h h0 h1 ⟨⟨by show 1 ≤ tag / 8; omega, by show tag / 8 < 536870912; omega, .inl rfl, hu0, hu1, by show 0 ≤ 500; omega, fun j hj => absurd hj (Nat.not_lt_zero _)⟩, by omega, by omega⟩ u 0 0 k2 (vP := okA (tag / 8) 0 u nilB (IntKind.wrap .i64 ((k : Int) + (k2 : Int)))) (vR := okA (tag / 8) 0 u nilB (IntKind.wrap .i64 ((k : Int) + (k2 : Int)))) ?_ (wk_okA wk_nilB ek) (fun nl => ?_) (wk_okA wk_nilB ek)
  · rw [hkd, bodP0, chk_ok h0 h1, slice_ok hk]; unfold varT; rw [askP hx2 h2]; rfl
  · rw [hkd, bodR0, slice_ok hk]; unfold varT; rw [askR hx2 h2]; rfl

/-- Bytes, as many as are told; or too few. -/
theorem tk_len (hn : n ≤ 500) (hx : Bytes n x) (h : takeA n x = trip tag k 0) (h0 : 8 ≤ tag) (h1 : tag < 4294967296) (hk0 : 1 ≤ k) (hk : k ≤ n) (hkd : tag % 8 = 2) (h2 : takeA (n - k) (fun i => x (i + k)) = trip u k2 0) (hk2 : k2 ≤ n - k) (hu0 : 0 ≤ u) (hu1 : u < 18446744073709551616) : ∃ r, Tk n x r := by
  have hx2 := shift_bytes hx k (n - k) (by omega)
  have e1 : IntKind.wrap .u64 (IntKind.wrap .i64 (((n - k : Nat) : Int) - (k2 : Int))) = ((n - k : Nat) : Int) - (k2 : Int) := by rw [wi (by omega) (by omega), wu (by omega) (by omega)]
  by_cases hu : u > ((n - k : Nat) : Int) - (k2 : Int)
  · refine ⟨.err 21, tk_good hx h h0 h1 (.inr (.inr rfl)) u 0 0 k2 (vP := errA 21) (vR := errA 21) ?_ (wk_errA _ _) (fun nl => ?_) (wk_errA _ _)⟩
    · rw [hkd, bodP2, chk_ok h0 h1, slice_ok hk]; unfold varT; rw [askP hx2 h2, e1, decide_eq_true hu]; rfl
    · rw [hkd, bodR2, slice_ok hk]; unfold varT; rw [askR hx2 h2, e1, decide_eq_true hu]; rfl
  · have e2 : IntKind.wrap .i64 u = u := wi (by omega) (by omega)
    have e3 : IntKind.wrap .i64 ((k2 : Int) + u) = (k2 : Int) + u := wi (by omega) (by omega)
    have e4 : IntKind.wrap .i64 ((k : Int) + (k2 : Int)) = (k : Int) + (k2 : Int) := wi (by omega) (by omega)
    have e5 : IntKind.wrap .i64 ((k : Int) + (k2 : Int) + u) = ((k + k2 + u.toNat : Nat) : Int) := by rw [wi (by omega) (by omega)]; omega
    have e6 : ((k2 : Int) + u).toNat - k2 = u.toNat := by omega
    have d1 : decide ((0 : Int) ≤ (k2 : Int) ∧ (k2 : Int) ≤ (k2 : Int) + u ∧ (k2 : Int) + u ≤ ((n - k : Nat) : Int)) = true := decide_eq_true (by omega)
    let r : RawD := ⟨tag / 8, 2, 0, u.toNat, fun i => x (i + k2 + k)⟩
    have okr : TkOk n (.ok r (k + k2 + u.toNat)) := ⟨⟨by show 1 ≤ tag / 8; omega, by show tag / 8 < 536870912; omega, .inr (.inr (.inl rfl)), by show (0 : Int) ≤ 0; omega, by show (0 : Int) < 18446744073709551616; omega, by show u.toNat ≤ 500; omega, fun j hj => hx _ (by have hj' : j < u.toNat := hj; omega)⟩, by omega, by omega⟩
    by_cases hz : u.toNat = 0
    · refine ⟨.ok r (k + k2 + u.toNat), tk_good hx h h0 h1 okr u 0 0 k2 (vP := okA (tag / 8) 2 0 (.rsl false 1 0 (fun _ => []) .non) ((k + k2 + u.toNat : Nat) : Int)) (vR := okA (tag / 8) 2 0 nilB ((k + k2 + u.toNat : Nat) : Int)) ?_ ?_ (fun nl => ?_) ?_⟩
      · rw [hkd, bodP2, chk_ok h0 h1, slice_ok hk]; unfold varT; rw [askP hx2 h2, e1, decide_eq_false hu, e2, e3, d1, e6, decide_eq_true hz, e4, e5]; rfl
      · refine wk_okA ?_ rfl
        show Wk1 _ (rowF false u.toNat (fun i => x (i + k2 + k)))
        rw [hz]
        intro E v hr
        cases hr with
        | rodd sz el own a ho => exact .rodd 1 _ .non a (.inl rfl)
        | rsl sz n el own b off c u hn ho hc hlen h1 hS hk => exact .rsl 1 0 _ .non b off c u hn ho hc (fun i hi => absurd hi (Nat.not_lt_zero _)) (fun i hi => absurd hi (Nat.not_lt_zero _)) (fun i hi => absurd hi (Nat.not_lt_zero _)) (fun i hi => absurd hi (Nat.not_lt_zero _))
      · rw [hkd, bodR2, slice_ok hk]; unfold varT; rw [askR hx2 h2, e1, decide_eq_false hu, e2, e3, d1, e6, decide_eq_true hz, e4, e5]; rfl
      · refine wk_okA ?_ rfl
        have en : nlR r = true := by show (u.toNat == 0) = true; rw [hz]; rfl
        show Wk1 _ (rowF (nlR r) u.toNat (fun i => x (i + k2 + k)))
        rw [en]
        exact wk_nilB' _ _ hz
    · have d2 : decide ((0 + u.toNat) * 1 ≤ 70368744177664 ∧ 0 + u.toNat < 4611686018427387904) = true := decide_eq_true (by omega)
      have wkB : Wk1 (.rsl false 1 (0 + u.toNat) (fun i => bif Nat.blt i (0 + u.toNat) then [.sc (.int .u8 (x (i + k2 + k)))] else []) .non) (rowF false u.toNat (fun i => x (i + k2 + k))) := by
        rw [Nat.zero_add]
        refine Wk1.row (fun i hi => ?_)
        have : Nat.blt i u.toNat = true := by simpa [Nat.blt_eq] using hi
        rw [this]; rfl
      refine ⟨.ok r (k + k2 + u.toNat), tk_good hx h h0 h1 okr u 0 0 k2 (vP := okA (tag / 8) 2 0 (.rsl false 1 (0 + u.toNat) (fun i => bif Nat.blt i (0 + u.toNat) then [.sc (.int .u8 (x (i + k2 + k)))] else []) .non) ((k + k2 + u.toNat : Nat) : Int)) (vR := okA (tag / 8) 2 0 (.rsl false 1 (0 + u.toNat) (fun i => bif Nat.blt i (0 + u.toNat) then [.sc (.int .u8 (x (i + k2 + k)))] else []) .non) ((k + k2 + u.toNat : Nat) : Int)) ?_ ?_ (fun nl => ?_) ?_⟩
      · rw [hkd, bodP2, chk_ok h0 h1, slice_ok hk]; unfold varT; rw [askP hx2 h2, e1, decide_eq_false hu, e2, e3, d1, e6, decide_eq_false hz, d2, e4, e5]; rfl
      · exact wk_okA wkB rfl
      · rw [hkd, bodR2, slice_ok hk]; unfold varT; rw [askR hx2 h2, e1, decide_eq_false hu, e2, e3, d1, e6, decide_eq_false hz, d2, e4, e5]; rfl
      · have en : nlR r = false := by show (u.toNat == 0) = false; simp; omega
        show Wk1 _ (.tup [.agg (r.cells (nlR r)), i64 ((k + k2 + u.toNat : Nat) : Int), i64 0])
        rw [en]
        exact wk_okA wkB rfl

theorem tk_ex (hn : n ≤ 500) (hx : Bytes n x) : ∃ r, Tk n x r := by
  rcases (takeA_is hx).2.2 with ⟨tag, k, h, hk0, hk, _, h0, h1⟩ | h
  · by_cases hb : 4294967296 ≤ tag ∨ tag < 8 ∨ (tag % 8 ≠ 0 ∧ tag % 8 ≠ 1 ∧ tag % 8 ≠ 2 ∧ tag % 8 ≠ 5)
    · exact ⟨_, tk_bad hx h h0 h1 hk hb⟩
    · by_cases hf : tag % 8 = 1 ∨ tag % 8 = 5
      · exact tk_fix hn hx h (by omega) (by omega) (by omega) hk hf
      · have hx2 := shift_bytes hx k (n - k) (by omega)
        rcases (takeA_is hx2).2.2 with ⟨u, k2, g, g0, g1, _, g2, g3⟩ | g
        · by_cases hv : tag % 8 = 0
          · exact ⟨_, tk_var hn hx h (by omega) (by omega) (by omega) hk hv g g1 g2 g3⟩
          · exact tk_len hn hx h (by omega) (by omega) (by omega) hk (by omega) g g1 g2 g3
        · exact ⟨_, tk_no2 hx h (by omega) (by omega) hk (by omega) g⟩
  · exact ⟨_, tk_no hx h⟩
end

/-! ### All fields of a row of bytes -/
inductive Flds (n : Nat) (x : Nat → Int) : Nat → List RawD → Nat → Int → Prop where
  | done : Flds n x n [] 0 0
  | err (at_ : Nat) (e : Int) (h : at_ < n) (tk : Tk (n - at_) (fun i => x (i + at_)) (.err e)) : Flds n x at_ [] at_ e
  | next (at_ : Nat) (r : RawD) (k : Nat) (l : List RawD) (z : Nat) (e : Int) (h : at_ < n) (tk : Tk (n - at_) (fun i => x (i + at_)) (.ok r k)) (rest : Flds n x (at_ + k) l z e) : Flds n x at_ (r :: l) z e

theorem flds_ex {n : Nat} {x : Nat → Int} (hn : n ≤ 500) (hx : Bytes n x) : ∀ (d p : Nat), p ≤ n → n - p ≤ d → ∃ l z e, Flds n x p l z e
  | 0, p, h1, h2 => by
    have : p = n := by omega
    subst this
    exact ⟨_, _, _, .done⟩
  | d + 1, p, h1, h2 => by
    by_cases hp : p = n
    · subst hp; exact ⟨_, _, _, .done⟩
    · obtain ⟨r, hr⟩ := tk_ex (n := n - p) (x := fun i => x (i + p)) (by omega) (shift_bytes hx p (n - p) (by omega))
      cases r with
      | err e => exact ⟨_, _, _, .err p e (by omega) hr⟩
      | ok r k =>
        have := hr.1
        obtain ⟨l, z, e, h⟩ := flds_ex hn hx d (p + k) (by have := this.2; omega) (by have := this.2; omega)
        exact ⟨_, _, _, .next p r k l z e (by omega) hr h⟩
end Go.Proofs.YtiipaliigpkfhaaGreat.Ab
