/- Part N5: rounds of which it is enough to know that they write above a line. -/
import Derived.Test.YtiipaliigpkfhaaGreatN4
set_option linter.unusedVariables false
set_option linter.unusedSimpArgs false
set_option maxRecDepth 100000
namespace Go.Proofs.YtiipaliigpkfhaaGreat.Ab
open Go Go.RowKit

structure TidyA where
  x : AExit
  T : List AV
  H : AHeap
  ok : Bool

def tidyA (ks kl : List Nat) (n lo : Nat) (r : OutE) : TidyA := ⟨r.1, fgo 0 ks r.2.1, (killH kl r.2.2.1).take n, r.2.2.2.all (fun l => decide (lo ≤ l)) && lbAs n (fgo 0 ks r.2.1) && ((killH kl r.2.2.1).take n).all (objLB n) && noPanic r.1⟩

def rangeW (lo n : Nat) : List Nat := (List.range n).filter fun l => decide (lo ≤ l)
theorem rangeW_lo {lo n l : Nat} (h : l ∈ rangeW lo n) : lo ≤ l := by
  unfold rangeW at h
  rw [List.mem_filter] at h
  simpa using h.2

theorem code_tidyA {P : Program} (hm : P.follows .mixedOrders = true) {call : CallT} (hc : CallTOk P call) {lo : LoopO} {k n m : Nat} {c : Code} {T T1 : List AV} {H H1 : AHeap} {ks kl : List Nat} {x : AExit} {F : Option TidyA} (hl : LoopsOk P lo) (h : (evCT P call lo k c T H).via (tidyA ks kl n m) = F)
    (hF : F = some ⟨x, T1, H1, true⟩) (hn : H.length ≤ n) (hkl : ∀ l ∈ kl, H.length ≤ l) : CodeOk P c T H x T1 H1 (rangeW m n) := by
  obtain ⟨⟨y, T2, H2, W2⟩, hr, hg⟩ := via_some h hF
  have hok := evCT_ok hm hc hl k c _ _ _ _ _ _ hr
  simp only [tidyA, TidyA.mk.injEq, Bool.and_eq_true, List.all_eq_true, decide_eq_true_eq] at hg
  obtain ⟨rfl, rfl, rfl, ⟨⟨h0, h1⟩, h2⟩, h3⟩ := hg
  refine (((hok.kill kl _ hkl).weak (fgo_wk _ _ _)).trim hn h1 h2 h3).wr (fun l hl hlt => ?_)
  unfold rangeW
  rw [List.mem_filter]
  exact ⟨List.mem_range.2 (by omega), by simpa using h0 l hl⟩
end Go.Proofs.YtiipaliigpkfhaaGreat.Ab
