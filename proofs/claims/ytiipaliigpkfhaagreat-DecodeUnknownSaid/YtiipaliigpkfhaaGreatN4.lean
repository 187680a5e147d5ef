/- Part N4: less is known of what lies there; a panic beside what else there is. -/
import Derived.Test.YtiipaliigpkfhaaGreatN3
set_option linter.unusedVariables false
set_option linter.unusedSimpArgs false
set_option maxRecDepth 100000
namespace Go.Proofs.YtiipaliigpkfhaaGreat.Ab
open Go Go.RowKit

/-- One object tells no more than another. -/
inductive WkO : AObj → AObj → Prop where
  | dead (o : AObj) : WkO o .dead
  | refl (o : AObj) : WkO o o
  | cells {cs cs' : List AV} (h : Wk cs cs') : WkO (.cells cs) (.cells cs')

def WkH (H H' : AHeap) : Prop := H.length = H'.length ∧ ∀ (l : Nat) (o' : AObj), H'[l]? = some o' → ∃ o, H[l]? = some o ∧ WkO o o'

theorem owns_wkH {E : Env} {H H' : AHeap} (h : WkH H H') {k b : Nat} (ho : owns E H' k b) : owns E H k b := by
  unfold owns at ho ⊢
  cases hk : H'[k]? with
  | none => rw [hk] at ho; exact ho.elim
  | some o' =>
    obtain ⟨o, h1, h2⟩ := h.2 k o' hk
    rw [hk] at ho
    rw [h1]
    cases h2 with
    | dead => exact ho.elim
    | refl => exact ho
    | cells => exact ho

theorem Good.wkH {E : Env} {H H' : AHeap} {w0 w : World} (g : Good E H w0 w) (h : WkH H H') : Good E H' w0 w := by
  refine ⟨g.below, fun hs => g.snap hs, fun {l o'} hl => ?_, fun {l l' b} h1 h2 => g.sep (owns_wkH h h1) (owns_wkH h h2), fun {l} hl => g.fresh (by rw [h.1]; exact hl), fun hl => g.φlt hl⟩
  obtain ⟨o, h1, h2⟩ := h.2 l o' hl
  have ho := g.obj h1
  cases h2 with
  | dead => exact trivial
  | refl => exact ho
  | @cells cs cs' hw =>
    intro b hb
    obtain ⟨q1, q2, arr, t, q3, q4⟩ := ho b hb
    refine ⟨q1, q2, arr, t, q3, fun j x hj => ?_⟩
    obtain ⟨y, hy, k⟩ := hw.2 j x hj
    obtain ⟨u, hu, hr⟩ := q4 j y hy
    exact ⟨u, hu, k _ _ hr⟩

def dimO (ks : List Nat) : AObj → AObj
  | .cells cs => .cells (fgo 0 ks cs)
  | o => o
/-- What is kept of a heap: of these labels these cells. -/
def dimH (ks : List (Nat × List Nat)) : Nat → AHeap → AHeap
  | _, [] => []
  | i, o :: r => (match ks.find? (·.1 == i) with
    | some (_, k) => dimO k o
    | none => .dead) :: dimH ks (i + 1) r

theorem dimO_wk (k : List Nat) (o : AObj) : WkO o (dimO k o) := by
  cases o with
  | cells cs => exact .cells (fgo_wk cs 0 k)
  | _ => exact .refl _

theorem dimH_wk (ks : List (Nat × List Nat)) : ∀ (H : AHeap) (i : Nat), WkH H (dimH ks i H)
  | [], i => ⟨rfl, fun l o h => by simp [dimH] at h⟩
  | o :: r, i => by
    obtain ⟨h1, h2⟩ := dimH_wk ks r (i + 1)
    refine ⟨by simp [dimH, h1], fun l o' hl => ?_⟩
    cases l with
    | zero =>
      simp only [dimH, List.getElem?_cons_zero, Option.some.injEq] at hl
      subst hl
      refine ⟨o, rfl, ?_⟩
      split
      · exact dimO_wk _ _
      · exact .dead _
    | succ l => exact h2 l o' (by simpa [dimH] using hl)

theorem Ctr.dim {P : Program} {g : FuncId} {args : List AV} {x : AV} {H1 : AHeap} {W : List Nat} (h : Ctr P g args x [] H1 W) (ks : List (Nat × List Nat)) : Ctr P g args x [] (dimH ks 0 H1) [] := by
  have hw := dimH_wk ks H1 0
  refine ⟨h.1, fun E w0 w vs hg hr => (h.2.1 E w0 w vs hg hr).mono ?_, ⟨Nat.zero_le _, fun k hk => absurd hk (Nat.not_lt_zero _)⟩⟩
  rintro e w' ⟨E', re, ex, g⟩
  refine ⟨E', re, ⟨ex.le, ex.size, Nat.zero_le _, fun {l} hl => absurd hl (Nat.not_lt_zero _), fun {l b} hl => absurd hl (Nat.not_lt_zero _), ex.old, fun {b} hb h0 => ?_⟩, g.wkH hw⟩
  obtain ⟨q1, q2, q3⟩ := ex.stay hb h0
  exact ⟨q1, fun k ho => q2 k (owns_wkH hw ho), q3⟩

/-- A panic beside what else there is. -/
theorem CtrPan.beside {P : Program} {f : FuncId} {args : List AV} {x : AV} {H : AHeap} (h : CtrPan P f args x H H []) (hargs : lbAs H.length args = true) (hx : lbA H.length x = true) (hH : ∀ o ∈ H, objLB H.length o = true) (J : AHeap) : CtrPan P f args x (H ++ J) (H ++ J) [] := by
  refine ⟨h.1, fun E w0 w vs hg hr => ?_, .refl _ _⟩
  have hr0 : RelL (E.cut H.length) args vs := ⟨hr.1, fun i x hx => (hr.2 i x hx).cut (lbAs_mem hargs x (List.mem_of_getElem? hx))⟩
  refine (h.2.1 (E.cut H.length) w0 w vs (good_part hg hH) hr0).mono ?_
  rintro e w' ⟨E', re, ex, g⟩
  cases re with
  | pan x v hv =>
    obtain ⟨E2, ex2, g2, conv⟩ := merge_state (n0 := (H ++ J).length) (W := (· ∈ ([] : List Nat))) hg (ex.weaken (Nat.le_refl _) (fun l _ hl => by simp at hl)) g hH
    exact ⟨E2, .pan _ _ (conv _ _ hv hx), ex2, g2⟩
end Go.Proofs.YtiipaliigpkfhaaGreat.Ab
