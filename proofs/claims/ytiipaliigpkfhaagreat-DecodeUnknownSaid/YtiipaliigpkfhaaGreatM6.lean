/- A field as bytes: numbers written short, whose memory is known. -/
import Derived.Test.YtiipaliigpkfhaaGreatM5
import Derived.Test.YtiipaliigpkfhaaGreatN3
set_option linter.unusedVariables false
set_option linter.unusedSimpArgs false
set_option maxRecDepth 100000
namespace Go.Proofs.YtiipaliigpkfhaaGreat.Ab
open Go Go.RowKit Go.Proofs

def bEl (l : List Int) : Nat → List AV := fun i => [.sc (.int .u8 (l.getD i 0))]
def rowT (l : List Int) (t : Nat) : AV := .rsl false 1 l.length (bEl l) (.tok t)

def ownOf : AV → Option Own
  | .rsl _ _ _ _ o => some o
  | _ => none

abbrev SeeX := (Option (Bool × List Int) × List Nat) × Option Own × AHeap
def gX (r : AV × AHeap × List Nat) : SeeX := (gB r, ownOf r.1, r.2.1)
def toX (cs : List AV) (q : Option (Bool × List Int) × List Nat) : SeeX := (q, some (.tok 1), [.cells cs, .tail (match q.1 with | some (_, l) => l.length | none => 0) 1])

def putX (cs : List AV) : Nat → List Int → Int → Option SeeX
  | 0, _, _ => none
  | k + 1, acc, N => bif decide (N < 128) then some (toX cs (some (false, acc ++ [IntKind.wrap .u8 N]), [])) else putX cs k (acc ++ [orI .u8 (IntKind.wrap .u8 N) 128]) (N.fdiv (2 ^ 7))
def refX (cs : List AV) : Nat → List Int → Int → Option SeeX
  | 0, _, _ => none
  | k + 1, acc, N => bif decide (N ≥ 128) then refX cs k (acc ++ [IntKind.wrap .u8 (IntKind.wrap .u8 (N.tmod 128) + 128)]) (IntKind.wrap .u64 (N.tdiv 128)) else some (toX cs (some (false, acc ++ [IntKind.wrap .u8 N]), []))

theorem putX_eq (cs : List AV) : ∀ (k : Nat) (acc : List Int) (N : Int), putX cs k acc N = (putT k acc N).map (toX cs)
  | 0, acc, N => rfl
  | k + 1, acc, N => by
    unfold putX putT
    cases decide (N < 128) with
    | true => rfl
    | false => exact putX_eq cs k _ _
theorem refX_eq (cs : List AV) : ∀ (k : Nat) (acc : List Int) (N : Int), refX cs k acc N = (refT k acc N).map (toX cs)
  | 0, acc, N => rfl
  | k + 1, acc, N => by
    unfold refX refT
    cases decide (N ≥ 128) with
    | true => exact refX_eq cs k _ _
    | false => rfl

theorem put_treeX (cs : List AV) (N : Int) : (evGT Tryz.prog noneT 14 80 [.sc (.int .u64 N)] [.cells cs]).via gX = putX cs 12 [] N := by kernel_rfl
theorem ref_treeX (cs : List AV) (N : Int) : (evGT Tryz.prog noneT 13 83 [.sc (.int .u64 N)] [.cells cs]).via gX = refX cs 12 [] N := by kernel_rfl

theorem wk_bytesT {nl : Bool} {n : Nat} {el : Nat → List AV} {own : Own} {l : List Int} (h : bytesL n el = some l) : n = l.length ∧ Wk1 (.rsl nl 1 n el own) (.rsl nl 1 l.length (bEl l) own) := by
  obtain ⟨hl, hel⟩ := bytesL_get n el l h
  subst hl
  exact ⟨rfl, Wk1.rsl (fun i hi => hel i _ (by simp [List.getD_eq_getElem?_getD, hi]))⟩

theorem gX_ctr {P : Program} {g : FuncId} {args : List AV} {cs : List AV} {r : AV × AHeap × List Nat} {l : List Int} (hc : Ctr P g args r.1 [.cells cs] r.2.1 r.2.2) (h : gX r = toX cs (some (false, l), [])) : Ctr P g args (rowT l 1) [.cells cs] [.cells cs, .tail l.length 1] [] := by
  unfold gX toX at h
  simp only [Prod.mk.injEq] at h
  obtain ⟨h1, h2, h3⟩ := h
  obtain ⟨x, H1, W⟩ := r
  simp only at hc h1 h2 h3
  subst h3
  unfold gB at h1
  simp only [Prod.mk.injEq] at h1
  obtain ⟨h1, rfl⟩ := h1
  split at h1
  · rename_i _ n el own
    simp only [Option.map_eq_some_iff, Prod.mk.injEq] at h1
    obtain ⟨l', hl, rfl, rfl⟩ := h1
    simp only [ownOf, Option.some.injEq] at h2
    subst h2
    exact hc.ansWk (wk_bytesT hl).2
  · cases h1

theorem shortPX {N : Int} (h0 : 0 ≤ N) (h1 : N < 18446744073709551616) (cs : List AV) : Ctr Tryz.prog 80 [.sc (.int .u64 N)] (rowT (shortL N) 1) [.cells cs] [.cells cs, .tail (shortL N).length 1] [] := by
  have hb := put_treeX cs N
  rw [putX_eq, shortL_eq h0 h1] at hb
  obtain ⟨r, hr, he⟩ := via_some hb rfl
  exact gX_ctr (evGT_ok mixed (noneT_ok _) 14 80 _ _ r hr) he
theorem shortRX {N : Int} (h0 : 0 ≤ N) (h1 : N < 18446744073709551616) (cs : List AV) : Ctr Tryz.prog 83 [.sc (.int .u64 N)] (rowT (shortL N) 1) [.cells cs] [.cells cs, .tail (shortL N).length 1] [] := by
  have hb := ref_treeX cs N
  rw [refX_eq, ← short_eq 12 [] N h0 h1, shortL_eq h0 h1] at hb
  obtain ⟨r, hr, he⟩ := via_some hb rfl
  exact gX_ctr (evGT_ok mixed (noneT_ok _) 13 83 _ _ r hr) he

/-! ### How long -/
theorem putT_len : ∀ (k : Nat) (acc : List Int) (N : Int) (b : Bool) (l : List Int) (W : List Nat), putT k acc N = some (some (b, l), W) → l.length ≤ acc.length + k ∧ acc.length < l.length
  | 0, acc, N, b, l, W, h => by cases h
  | k + 1, acc, N, b, l, W, h => by
    unfold putT at h
    cases hd : decide (N < 128) with
    | true =>
      rw [hd] at h
      simp only [cond_true, Option.some.injEq, Prod.mk.injEq] at h
      obtain ⟨⟨_, rfl⟩, _⟩ := h
      simp
    | false =>
      rw [hd] at h
      have := putT_len k _ _ b l W h
      simp at this
      omega
theorem shortL_len {N : Int} (h0 : 0 ≤ N) (h1 : N < 18446744073709551616) : (shortL N).length ≤ 12 ∧ 0 < (shortL N).length := by
  have := putT_len 12 [] N _ _ _ (shortL_eq h0 h1)
  simpa using this
end Go.Proofs.YtiipaliigpkfhaaGreat.Ab
