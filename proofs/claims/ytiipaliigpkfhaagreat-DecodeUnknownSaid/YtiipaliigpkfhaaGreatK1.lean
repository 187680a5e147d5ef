/- Functions that answer rows of bytes: numbers written short, numbers written at full length. -/
import Derived.Test.YtiipaliigpkfhaaGreatG4
set_option linter.unusedVariables false
set_option linter.unusedSimpArgs false
set_option maxRecDepth 100000
namespace Go.Proofs.YtiipaliigpkfhaaGreat.Ab
open Go Go.RowKit Go.Proofs

/-- A row of bytes. -/
def rowI (nl : Bool) (l : List Int) : AV := .rsl nl 1 l.length (fun i => [.sc (.int .u8 (l.getD i 0))]) .non

theorem own_non {E : Env} {own : Own} {n b off c : Nat} (h : own.ok E n b off c) : n ≤ c := by
  cases own with
  | non => exact h
  | tight => exact Nat.le_of_eq h.symm
  | tok t => exact h.2.2

theorem wk_bytes {nl : Bool} {n : Nat} {el : Nat → List AV} {own : Own} {l : List Int} (h : bytesL n el = some l) : Wk1 (.rsl nl 1 n el own) (rowI nl l) := by
  obtain ⟨hl, hel⟩ := bytesL_get n el l h
  subst hl
  have he : ∀ i, i < l.length → el i = [.sc (.int .u8 (l.getD i 0))] := fun i hi => hel i _ (by simp [List.getD_eq_getElem?_getD, hi])
  intro E v hr
  unfold rowI
  generalize hm : l.length = m at hr he
  cases hr with
  | rnil sz el own ho => exact .rnil 1 _ .non (.inl rfl)
  | rodd sz el own a ho => exact .rodd 1 _ .non a (.inl rfl)
  | rsl sz n el own b off c u hn ho hc hlen h1 hS hk =>
    exact .rsl 1 m _ .non b off c u hn (own_non ho) hc (fun i hi => rfl) (fun i hi x hx => by simp at hx; subst hx; rfl) (fun i hi j x hj => hS i hi j x (by rw [he i hi]; exact hj)) (fun i hi j x hj => hk i hi j x (by rw [he i hi]; exact hj))

theorem Ctr.ansWk {P : Program} {g : FuncId} {args : List AV} {x y : AV} {H H1 : AHeap} {W : List Nat} (h : Ctr P g args x H H1 W) (w : Wk1 x y) : Ctr P g args y H H1 W := by
  refine ⟨h.1, fun E w0 w1 vs hg hr => (h.2.1 E w0 w1 vs hg hr).mono ?_, h.2.2⟩
  rintro e w' ⟨E', re, ex, g⟩
  cases re with
  | ret x v hv => exact ⟨E', .ret _ _ (w _ _ hv), ex, g⟩

theorem lf_rowI (nl : Bool) (l : List Int) : LF (rowI nl l) := .rsl _ _ _ _ _ (by simp)

/-- From the empty heap to any. -/
theorem ctr_any {P : Program} {g : FuncId} {args : List AV} {x : AV} {H1 : AHeap} (h : Ctr P g args x [] H1 []) (hx : LF x) (hx0 : lbA 0 x = true) (hargs : lbAs 0 args = true) (H : AHeap) : Ctr P g args x H H [] := by
  have := ctr_beside (ctr_forget h hx) hargs hx0 (fun o ho => by simp at ho) H
  simpa using this

/-- Bytes that are answered, seen. -/
def gB (r : AV × AHeap × List Nat) : Option (Bool × List Int) × List Nat := (match r.1 with | .rsl nl 1 n el _ => (bytesL n el).map fun l => (nl, l) | _ => none, r.2.2)

theorem gB_wk {r : AV × AHeap × List Nat} {nl : Bool} {l : List Int} {W : List Nat} (h : gB r = (some (nl, l), W)) : Wk1 r.1 (rowI nl l) ∧ r.2.2 = W := by
  unfold gB at h
  simp only [Prod.mk.injEq] at h
  obtain ⟨h1, h2⟩ := h
  refine ⟨?_, h2⟩
  split at h1
  · rename_i nl' n el own heq
    simp only [Option.map_eq_some_iff, Prod.mk.injEq] at h1
    obtain ⟨l', hl, rfl, rfl⟩ := h1
    rw [heq]
    exact wk_bytes hl
  · cases h1

theorem ctr_bytes {P : Program} (hm : P.follows .mixedOrders = true) {orc : OrcT} (horc : OrcOk P orc) {lo : FuncId → LoopO} (hl : ∀ g, LoopsOk P (lo g)) {n : Nat} {g : FuncId} {args : List AV} {F : Option (Option (Bool × List Int) × List Nat)} {nl : Bool} {l : List Int} (h : (evGL P orc lo n g args []).via gB = F) (hF : F = some (some (nl, l), [])) (hargs : lbAs 0 args = true) (H : AHeap) : Ctr P g args (rowI nl l) H H [] := by
  obtain ⟨r, hr, hq⟩ := via_some h hF
  obtain ⟨hw, hW⟩ := gB_wk hq
  have := evGL_ok hm horc hl n g args [] r hr
  rw [hW] at this
  exact ctr_any (this.ansWk hw) (lf_rowI nl l) rfl hargs H

/-! ### Fixed -/
def fixL (m : Nat) (N : Int) : List Int := (List.range m).map fun i => IntKind.wrap .u8 (N.fdiv (2 ^ (8 * i)))

theorem fixR_tree (N : Int) : (evGT Tryz.prog noneT 14 85 [.sc (.int .u64 N), .sc (.int .i64 8)] []).via gB = some (some (false, fixL 8 N), []) ∧ (evGT Tryz.prog noneT 14 85 [.sc (.int .u64 N), .sc (.int .i64 4)] []).via gB = some (some (false, fixL 4 N), []) :=
  ⟨by kernel_rfl, by kernel_rfl⟩

/-- A row that was written, seen. -/
def gM (r : AV × AHeap × List Nat) : Option (Nat × Nat × List AV) × List Nat := (match r.1 with | .msl l 1 n => (match r.2.1[l]? with | some (.cells cs) => some (l, n, cs) | _ => none) | _ => none, r.2.2)

theorem gM_eq {r : AV × AHeap × List Nat} {l n : Nat} {cs : List AV} {W : List Nat} (h : gM r = (some (l, n, cs), W)) : r.1 = .msl l 1 n ∧ r.2.1[l]? = some (.cells cs) ∧ r.2.2 = W := by
  unfold gM at h
  simp only [Prod.mk.injEq] at h
  obtain ⟨h1, h2⟩ := h
  split at h1
  · rename_i l' n' heq
    split at h1
    · rename_i cs' hc
      simp only [Option.some.injEq, Prod.mk.injEq] at h1
      obtain ⟨rfl, rfl, rfl⟩ := h1
      exact ⟨heq, hc, h2⟩
    · cases h1
  · cases h1

theorem fixP_tree (N : Int) : (evGT Tryz.prog noneT 14 82 [.sc (.int .u64 N), .sc (.int .i64 8)] []).via gM = some (some (0, 8, (fixL 8 N).map fun b => .sc (.int .u8 b)), []) ∧ (evGT Tryz.prog noneT 14 82 [.sc (.int .u64 N), .sc (.int .i64 4)] []).via gM = some (some (0, 4, (fixL 4 N).map fun b => .sc (.int .u8 b)), []) :=
  ⟨by kernel_rfl, by kernel_rfl⟩

theorem ctr_row {P : Program} (hm : P.follows .mixedOrders = true) {n : Nat} {g : FuncId} {args : List AV} {m : Nat} {bs : List Int} (h : (evGT P noneT n g args []).via gM = some (some (0, m, bs.map fun b => .sc (.int .u8 b)), [])) (hb : bs.length = m) (hbs : bytesL m (rowOf 1 (bs.map fun b => .sc (.int .u8 b))) = some bs) (hargs : lbAs 0 args = true) (H : AHeap) : Ctr P g args (rowI false bs) H H [] := by
  obtain ⟨r, hr, hq⟩ := via_some h rfl
  obtain ⟨h1, h2, h3⟩ := gM_eq hq
  have := evGT_ok hm (noneT_ok _) n g args [] r hr
  rw [h1, h3] at this
  have hf := ctr_freeze this (Nat.zero_le _) h2 (by simp [hb]) (fun x hx => by
    simp only [List.mem_map] at hx
    obtain ⟨b, _, rfl⟩ := hx
    rfl)
  exact ctr_any (hf.ansWk (wk_bytes hbs)) (lf_rowI false bs) rfl hargs H

theorem fix8P (N : Int) (H : AHeap) : Ctr Tryz.prog 82 [.sc (.int .u64 N), .sc (.int .i64 8)] (rowI false (fixL 8 N)) H H [] := ctr_row mixed (fixP_tree N).1 rfl rfl rfl H
theorem fix4P (N : Int) (H : AHeap) : Ctr Tryz.prog 82 [.sc (.int .u64 N), .sc (.int .i64 4)] (rowI false (fixL 4 N)) H H [] := ctr_row mixed (fixP_tree N).2 rfl rfl rfl H
theorem fix8R (N : Int) (H : AHeap) : Ctr Tryz.prog 85 [.sc (.int .u64 N), .sc (.int .i64 8)] (rowI false (fixL 8 N)) H H [] := ctr_bytes mixed (noneT_ok _) (fun _ => noLoop_ok) (fixR_tree N).1 rfl rfl H
theorem fix4R (N : Int) (H : AHeap) : Ctr Tryz.prog 85 [.sc (.int .u64 N), .sc (.int .i64 4)] (rowI false (fixL 4 N)) H H [] := ctr_bytes mixed (noneT_ok _) (fun _ => noLoop_ok) (fixR_tree N).2 rfl rfl H

/-! ### Short -/
def orI (k : IntKind) (x y : Int) : Int := k.wrap ((BitVec.ofInt k.bits x ||| BitVec.ofInt k.bits y).toNat : Int)
def xorI (k : IntKind) (x y : Int) : Int := k.wrap ((BitVec.ofInt k.bits x ^^^ BitVec.ofInt k.bits y).toNat : Int)

def putT : Nat → List Int → Int → Option (Option (Bool × List Int) × List Nat)
  | 0, _, _ => none
  | k + 1, acc, N => bif decide (N < 128) then some (some (false, acc ++ [IntKind.wrap .u8 N]), []) else putT k (acc ++ [orI .u8 (IntKind.wrap .u8 N) 128]) (N.fdiv (2 ^ 7))
def refT : Nat → List Int → Int → Option (Option (Bool × List Int) × List Nat)
  | 0, _, _ => none
  | k + 1, acc, N => bif decide (N ≥ 128) then refT k (acc ++ [IntKind.wrap .u8 (IntKind.wrap .u8 (N.tmod 128) + 128)]) (IntKind.wrap .u64 (N.tdiv 128)) else some (some (false, acc ++ [IntKind.wrap .u8 N]), [])

theorem put_tree (N : Int) : (evGT Tryz.prog noneT 14 80 [.sc (.int .u64 N)] []).via gB = putT 12 [] N := by kernel_rfl
theorem ref_tree (N : Int) : (evGT Tryz.prog noneT 13 83 [.sc (.int .u64 N)] []).via gB = refT 12 [] N := by kernel_rfl

/-! ### They agree -/
theorem or_u8 : ∀ x : Fin 256, orI .u8 (x.val : Int) 128 = IntKind.wrap .u8 ((x.val : Int) % 128 + 128) := by decide +kernel

theorem wrap_u8 (N : Int) : IntKind.wrap .u8 N = N % 256 := by simp [IntKind.wrap, IntKind.bits, IntKind.signed]
theorem wrap_u64' (N : Int) : IntKind.wrap .u64 N = N % 18446744073709551616 := by simp [IntKind.wrap, IntKind.bits, IntKind.signed]

theorem hi_eq {N : Int} (h : 0 ≤ N) : orI .u8 (IntKind.wrap .u8 N) 128 = IntKind.wrap .u8 (IntKind.wrap .u8 (N.tmod 128) + 128) := by
  rw [wrap_u8 N]
  have hlt : (N % 256).toNat < 256 := by omega
  have e : (((⟨(N % 256).toNat, hlt⟩ : Fin 256).val : Nat) : Int) = N % 256 := by
    show (((N % 256).toNat : Nat) : Int) = N % 256
    omega
  have := or_u8 ⟨(N % 256).toNat, hlt⟩
  rw [e] at this
  rw [this]
  have h1 : N.tmod 128 = N % 128 := Int.tmod_eq_emod_of_nonneg h
  rw [h1, wrap_u8 (N % 128)]
  congr 1
  omega

theorem step_eq {N : Int} (h : 0 ≤ N) (h1 : N < 18446744073709551616) : IntKind.wrap .u64 (N.tdiv 128) = N.fdiv (2 ^ 7) ∧ 0 ≤ N.fdiv (2 ^ 7) ∧ N.fdiv (2 ^ 7) = N / 128 := by
  have e1 : N.fdiv (2 ^ 7) = N / 128 := by rw [Int.fdiv_eq_ediv_of_nonneg _ (by decide)]; rfl
  have e2 : N.tdiv 128 = N / 128 := Int.tdiv_eq_ediv_of_nonneg h
  rw [e1, e2, wrap_u64']
  omega

theorem short_eq : ∀ (k : Nat) (acc : List Int) (N : Int), 0 ≤ N → N < 18446744073709551616 → putT k acc N = refT k acc N
  | 0, acc, N, h0, h1 => rfl
  | k + 1, acc, N, h0, h1 => by
    unfold putT refT
    obtain ⟨e1, e2, e3⟩ := step_eq h0 h1
    by_cases h : N < 128
    · rw [decide_eq_true h, decide_eq_false (by omega : ¬ N ≥ 128)]; rfl
    · rw [decide_eq_false h, decide_eq_true (by omega : N ≥ 128), hi_eq h0, e1]
      simp only [cond_true, cond_false]
      exact short_eq k _ _ e2 (by rw [e3]; omega)

theorem short_some : ∀ (k : Nat) (acc : List Int) (N : Int), 0 ≤ N → N < 128 ^ (k + 1) → N < 18446744073709551616 → ∃ l, putT (k + 1) acc N = some (some (false, l), [])
  | 0, acc, N, h0, h1, _ => by
    unfold putT
    rw [decide_eq_true (by omega : N < 128)]
    exact ⟨_, rfl⟩
  | k + 1, acc, N, h0, h1, h2 => by
    obtain ⟨e1, e2, e3⟩ := step_eq h0 h2
    unfold putT
    by_cases h : N < 128
    · rw [decide_eq_true h]; exact ⟨_, rfl⟩
    · rw [decide_eq_false h]
      simp only [cond_false]
      refine short_some k _ _ e2 ?_ (by rw [e3]; omega)
      rw [e3]
      have : (128 : Int) ^ (k + 1 + 1) = 128 ^ (k + 1) * 128 := by rw [Int.pow_succ]
      omega

theorem short_ex (N : Int) : ∃ l : List Int, 0 ≤ N → N < 18446744073709551616 → putT 12 [] N = some (some (false, l), []) := by
  by_cases h : 0 ≤ N ∧ N < 18446744073709551616
  · obtain ⟨l, hl⟩ := short_some 11 [] N h.1 (by omega) h.2
    exact ⟨l, fun _ _ => hl⟩
  · exact ⟨[], fun h0 h1 => absurd ⟨h0, h1⟩ h⟩

/-- A number's bytes, written short. -/
noncomputable def shortL (N : Int) : List Int := (short_ex N).choose
theorem shortL_eq {N : Int} (h0 : 0 ≤ N) (h1 : N < 18446744073709551616) : putT 12 [] N = some (some (false, shortL N), []) := (short_ex N).choose_spec h0 h1

theorem shortP {N : Int} (h0 : 0 ≤ N) (h1 : N < 18446744073709551616) (H : AHeap) : Ctr Tryz.prog 80 [.sc (.int .u64 N)] (rowI false (shortL N)) H H [] :=
  ctr_bytes mixed (noneT_ok _) (fun _ => noLoop_ok) (put_tree N) (shortL_eq h0 h1) rfl H
theorem shortR {N : Int} (h0 : 0 ≤ N) (h1 : N < 18446744073709551616) (H : AHeap) : Ctr Tryz.prog 83 [.sc (.int .u64 N)] (rowI false (shortL N)) H H [] :=
  ctr_bytes mixed (noneT_ok _) (fun _ => noLoop_ok) (ref_tree N) ((short_eq 12 [] N h0 h1).symm.trans (shortL_eq h0 h1)) rfl H

/-! ### With the sign last -/
def zigP (N : Int) : Int := xorI .u64 (IntKind.wrap .u64 (IntKind.wrap .u64 N * 2 ^ 1)) (IntKind.wrap .u64 (N.fdiv (2 ^ 63)))
def zigR (N : Int) : Int := bif decide (N < 0) then IntKind.wrap .u64 (IntKind.wrap .u64 (2 * IntKind.wrap .u64 (IntKind.wrap .i64 (0 - IntKind.wrap .i64 (N + 1)))) + 1) else IntKind.wrap .u64 (2 * IntKind.wrap .u64 N)

theorem zigP_tree (N : Int) : (evGT Tryz.prog noneT 10 81 [.sc (.int .i64 N)] []).via ansA = some (.sc (.int .u64 (zigP N))) := by kernel_rfl
theorem zigR_tree (N : Int) : (evGT Tryz.prog noneT 10 84 [.sc (.int .i64 N)] []).via ansA =
    bif decide (N < 0) then some (.sc (.int .u64 (IntKind.wrap .u64 (IntKind.wrap .u64 (2 * IntKind.wrap .u64 (IntKind.wrap .i64 (0 - IntKind.wrap .i64 (N + 1)))) + 1)))) else some (.sc (.int .u64 (IntKind.wrap .u64 (2 * IntKind.wrap .u64 N)))) := by kernel_rfl

theorem xor_zero {x : Int} (h0 : 0 ≤ x) (h1 : x < 18446744073709551616) : xorI .u64 x 0 = x := by
  unfold xorI
  have e : (BitVec.ofInt (IntKind.bits .u64) x ^^^ BitVec.ofInt (IntKind.bits .u64) 0).toNat = x.toNat := by
    have h2 : BitVec.ofInt (IntKind.bits .u64) 0 = 0#(IntKind.bits .u64) := rfl
    rw [h2, BitVec.xor_zero]
    show (BitVec.ofInt 64 x).toNat = x.toNat
    rw [BitVec.toNat_ofInt]
    omega
  rw [e, wrap_u64']
  omega

theorem xor_ones {x : Int} (h0 : 0 ≤ x) (h1 : x < 18446744073709551616) : xorI .u64 x 18446744073709551615 = 18446744073709551615 - x := by
  unfold xorI
  have e : (BitVec.ofInt (IntKind.bits .u64) x ^^^ BitVec.ofInt (IntKind.bits .u64) 18446744073709551615).toNat = 18446744073709551615 - x.toNat := by
    have h2 : BitVec.ofInt (IntKind.bits .u64) 18446744073709551615 = BitVec.allOnes (IntKind.bits .u64) := by decide +kernel
    rw [h2, BitVec.xor_allOnes, BitVec.toNat_not]
    show 2 ^ 64 - 1 - (BitVec.ofInt 64 x).toNat = 18446744073709551615 - x.toNat
    rw [BitVec.toNat_ofInt]
    omega
  rw [e, wrap_u64']
  omega

theorem zig_eq {N : Int} (h0 : -9223372036854775808 ≤ N) (h1 : N < 9223372036854775808) : zigP N = zigR N ∧ 0 ≤ zigP N ∧ zigP N < 18446744073709551616 := by
  have ef : N.fdiv (2 ^ 63) = if N < 0 then -1 else 0 := by
    have : N.fdiv (2 ^ 63) = N / 9223372036854775808 := by rw [Int.fdiv_eq_ediv_of_nonneg _ (by decide)]; rfl
    rw [this]
    split <;> omega
  have w64 : ∀ x : Int, -9223372036854775808 ≤ x → x < 9223372036854775808 → IntKind.wrap .i64 x = x := by
    intro x h2 h3
    simp only [IntKind.wrap, IntKind.bits, IntKind.signed]
    simp
    split <;> omega
  unfold zigP zigR
  rw [ef]
  by_cases h : N < 0
  · rw [if_pos h, decide_eq_true h]
    have e1 : IntKind.wrap .u64 (-1) = 18446744073709551615 := by rw [wrap_u64']; rfl
    have e2 : IntKind.wrap .u64 (IntKind.wrap .u64 N * 2 ^ 1) = 2 * N + 18446744073709551616 := by
      rw [wrap_u64', wrap_u64']; omega
    rw [e1, e2, xor_ones (by omega) (by omega)]
    simp only [cond_true]
    rw [w64 (N + 1) (by omega) (by omega), w64 (0 - (N + 1)) (by omega) (by omega), wrap_u64' (0 - (N + 1)), wrap_u64' (2 * _), wrap_u64']
    omega
  · rw [if_neg h, decide_eq_false h]
    have e1 : IntKind.wrap .u64 0 = 0 := by rw [wrap_u64']; rfl
    have e2 : IntKind.wrap .u64 (IntKind.wrap .u64 N * 2 ^ 1) = 2 * N := by
      rw [wrap_u64', wrap_u64']; omega
    rw [e1, e2, xor_zero (by omega) (by omega)]
    simp only [cond_false]
    rw [wrap_u64' N, wrap_u64']
    omega

theorem zigP_ctr (N : Int) (H : AHeap) : Ctr Tryz.prog 81 [.sc (.int .i64 N)] (.sc (.int .u64 (zigP N))) H H [] :=
  ctr_sc mixed (noneT_ok _) (zigP_tree N) rfl (fun a ha => by simp at ha; subst ha; exact .sc _) H
theorem zigR_ctr (N : Int) (H : AHeap) : Ctr Tryz.prog 84 [.sc (.int .i64 N)] (.sc (.int .u64 (zigR N))) H H [] := by
  refine ctr_sc mixed (noneT_ok _) (zigR_tree N) ?_ (fun a ha => by simp at ha; subst ha; exact .sc _) H
  unfold zigR
  cases decide (N < 0) <;> rfl
end Go.Proofs.YtiipaliigpkfhaaGreat.Ab
