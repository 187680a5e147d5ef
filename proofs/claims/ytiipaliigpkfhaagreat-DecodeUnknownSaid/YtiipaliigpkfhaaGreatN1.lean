/- Part N1: labels that are done with; loops told exactly; functions with a range over a function. -/
import Derived.Test.YtiipaliigpkfhaaGreatL2
set_option linter.unusedVariables false
set_option linter.unusedSimpArgs false
set_option maxRecDepth 100000
namespace Go.Proofs.YtiipaliigpkfhaaGreat.Ab
open Go Go.RowKit

theorem Ext.killed {n0 : Nat} {W : Nat → Prop} {E E' : Env} {H H' : AHeap} {w w' : World} (h : Ext n0 W E H w E' H' w') {l : Nat} (hl : n0 ≤ l) : Ext n0 W E H w E' (H'.set l .dead) w' := by
  refine ⟨h.le, h.size, by simpa using h.len, fun {k} hk hw => ?_, fun hk hw ho => h.keep hk hw ho, h.old, fun {b} hb h0 => ?_⟩
  · rw [List.getElem?_set_ne (by omega)]; exact h.same hk hw
  · obtain ⟨q1, q2, q3⟩ := h.stay hb h0
    exact ⟨q1, fun k ho => q2 k (owns_kill ho).1, q3⟩

theorem CodeOk.kill1 {P : Program} {c : Code} {T T' : List AV} {H H' : AHeap} {x : AExit} {W : List Nat} (h : CodeOk P c T H x T' H' W) {l : Nat} (hl : H.length ≤ l) : CodeOk P c T H x T' (H'.set l .dead) W := by
  refine ⟨fun n0 W0 hn hW E w0 w a D hn' hg ht hd => ?_, ⟨by simpa using h.2.1, fun k hk hm => ?_⟩⟩
  · refine wp_mono (h.1 n0 W0 hn hW E w0 w a D hn' hg ht hd) ?_
    rintro e a' w' ⟨E', ax, T2, H2, ⟨rfl, rfl, rfl⟩, r, ex, g, t, d⟩
    exact ⟨E', ax, _, _, ⟨rfl, rfl, rfl⟩, r, ex.killed (Nat.le_trans hn' hl), g.forgetObj l, t, d⟩
  · rw [List.getElem?_set_ne (by omega)]; exact h.2.2 k hk hm

def killH (ks : List Nat) (H : AHeap) : AHeap := ks.foldl (fun H l => H.set l .dead) H

theorem CodeOk.kill {P : Program} {c : Code} {T T' : List AV} {H : AHeap} {x : AExit} {W : List Nat} : ∀ (ks : List Nat) (H' : AHeap), CodeOk P c T H x T' H' W → (∀ l ∈ ks, H.length ≤ l) → CodeOk P c T H x T' (killH ks H') W
  | [], _, h, _ => h
  | k :: ks, H', h, hk => CodeOk.kill ks _ (h.kill1 (hk k (List.mem_cons_self ..))) (fun l hl => hk l (List.mem_cons_of_mem _ hl))

theorem Ctr.kill1 {P : Program} {g : FuncId} {args : List AV} {x : AV} {H H' : AHeap} {W : List Nat} (h : Ctr P g args x H H' W) {l : Nat} (hl : H.length ≤ l) : Ctr P g args x H (H'.set l .dead) W := by
  refine ⟨h.1, fun E w0 w vs hg hr => (h.2.1 E w0 w vs hg hr).mono ?_, ⟨by simpa using h.2.2.1, fun k hk hm => ?_⟩⟩
  · rintro e w' ⟨E', re, ex, g⟩
    exact ⟨E', re, ex.killed hl, g.forgetObj l⟩
  · rw [List.getElem?_set_ne (by omega)]; exact h.2.2.2 k hk hm

def tidyK (ks : List Nat) (kl : List Nat) (n : Nat) (r : OutE) : Tidy := ⟨r.1, fgo 0 ks r.2.1, (killH kl r.2.2.1).take n, below n r.2.2.2, lbAs n (fgo 0 ks r.2.1) && ((killH kl r.2.2.1).take n).all (objLB n) && noPanic r.1⟩

theorem code_tidyK {P : Program} (hm : P.follows .mixedOrders = true) {call : CallT} (hc : CallTOk P call) {lo : LoopO} {k n : Nat} {c : Code} {T T1 : List AV} {H H1 : AHeap} {ks kl : List Nat} {x : AExit} {W1 : List Nat} {F : Option Tidy} (hl : LoopsOk P lo) (h : (evCT P call lo k c T H).via (tidyK ks kl n) = F)
    (hF : F = some ⟨x, T1, H1, W1, true⟩) (hn : H.length ≤ n) (hkl : ∀ l ∈ kl, H.length ≤ l) : CodeOk P c T H x T1 H1 W1 := by
  obtain ⟨⟨y, T2, H2, W2⟩, hr, hg⟩ := via_some h hF
  have hok := evCT_ok hm hc hl k c _ _ _ _ _ _ hr
  simp only [tidyK, Tidy.mk.injEq, Bool.and_eq_true] at hg
  obtain ⟨rfl, rfl, rfl, rfl, ⟨h1, h2⟩, h3⟩ := hg
  exact (((hok.kill kl _ hkl).weak (fgo_wk _ _ _)).trim hn h1 (by simpa using h2) h3).wr (fun l hl hlt => below_mem (by omega) hl)

/-! ### Loops told exactly -/
structure ToldX where
  key : Nat
  ks : List Nat
  x : AExit
  T : List AV
  H : AHeap
  W : List Nat

open Classical in
noncomputable def askX (P : Program) (c : Code) (T : List AV) (H : AHeap) (x : AExit) (T' : List AV) (H' : AHeap) (W : List Nat) : Bool := decide (CodeOk P (.loop c) T H x T' H' W)
theorem askX_of {P : Program} {c : Code} {T T' : List AV} {H H' : AHeap} {x : AExit} {W : List Nat} (h : CodeOk P (.loop c) T H x T' H' W) : askX P c T H x T' H' W = true := by simp only [askX, decide_eq_true_eq]; exact h

noncomputable def toldX (P : Program) (xs : List ToldX) (lo : LoopO) : LoopO :=
  { lo with loop := fun c T H => match (fstReg c).bind (fun i => xs.find? (·.key == i)) with
    | some e => some (.br (askX P c (fgo 0 e.ks T) H e.x e.T e.H e.W) (.leaf (e.x, e.T, e.H, e.W)) .bad)
    | none => lo.loop c T H }

theorem toldX_ok {P : Program} {xs : List ToldX} {lo : LoopO} (hl : LoopsOk P lo) : LoopsOk P (toldX P xs lo) := by
  refine ⟨fun c T H t x T' H' Wr h hr => ?_, hl.site, hl.reg⟩
  unfold toldX at h
  simp only at h
  split at h
  · cases h
    rcases Tree.sel_br hr with ⟨hb, hr⟩ | ⟨_, hr⟩
    · have := Tree.sel_leaf hr
      simp only [Prod.mk.injEq] at this
      obtain ⟨rfl, rfl, rfl, rfl⟩ := this
      simp only [askX, decide_eq_true_eq] at hb
      exact hb.weakIn (fgo_wk T 0 _)
    · exact (Tree.sel_bad hr).elim
  · exact hl.loop _ _ _ _ _ _ _ _ h hr

/-! ### Functions whose bodies leave marks -/
def noCall : CallE := fun _ _ _ => .bad []
theorem noCall_ok {P : Program} : CallOk P noCall := fun g args H x H1 Wr h => by cases h

theorem ctr_of_body {P : Program} (hm : P.follows .mixedOrders = true) {call : CallE} (hc : CallOk P call) {n : Nat} {g : FuncId} {fn : Func} {c : Code} {args : List AV} {y : AExit} {T : List AV} {x : AV} {H H1 H2 : AHeap} {W1 W2 : List Nat} {D : DefE} (hfn : P.funcs[g]? = some fn) (hname : (fn.name == "runtime.NumGoroutine") = false) (hbody : fn.body = some c)
    (hbo : BodyOk P c (startA fn args) H [] y T H1 W1 D) (hy : y = .normal ∨ y = .ret) (hq : evQs P call n D H1 = .ok (H2, W2)) (hz : resultC P H2 fn T = some x) : Ctr P g args x H H2 (below H.length (W1 ++ W2)) := by
  have hk := (evQs_ok (fn := fn) (tmps := #[]) (R := fun _ _ => True) hm hc D _ _ _ hq).1
  have hkeep := hbo.2.trans hk
  refine ⟨⟨fn, c, hfn, hname, hbody⟩, ?_, hkeep.1, fun l hl hn => hkeep.2 l hl (fun hm => hn (below_mem hl hm))⟩
  intro E w0 w vs hg hr
  refine calls_of_wp_marks hfn hbody ?_
  have ht : RelT E (startA fn args) (vs ++ Array.replicate (fn.ntmps - vs.size) undef) := by
    have h0 := relL_append hr (k := (⟨by simp [hr.1], fun i x hx => by
      have := List.mem_of_getElem? hx
      rw [List.mem_replicate] at this
      rw [this.2]; exact .any _⟩ : RelL E (List.replicate (fn.ntmps - args.length) .any) (Array.replicate (fn.ntmps - vs.size) undef)))
    exact h0
  refine wp_mono (hbo.1 E w0 w ⟨_, []⟩ hg ht .nil) ?_
  rintro e a1 w1 ⟨E1, rx, ex1, g1, t1, d1⟩
  have hleave : LeavesM P fn a1.tmps (fun e w' => ∃ E', RelE E' (.ret x) e ∧ Ext H.length (· ∈ below H.length (W1 ++ W2)) E H w E' H2 w' ∧ Good E' H2 w0 w') a1.defers w1 := by
    refine (evQs_ok (fn := fn) (tmps := a1.tmps) hm hc D _ _ _ hq).2 E1 w0 w1 _ g1 d1 (fun E2 w2 ex2 g2 => ?_)
    obtain ⟨v, hv, hrel⟩ := resultC_run g2 (t1.mono ex2.le) hz
    refine ⟨v, hv, E2, .ret _ _ hrel, ?_, g2⟩
    exact (ex1.weaken (Nat.le_refl _) (fun l hl hm => below_mem hl (List.mem_append_left _ hm))).trans (ex2.weaken hbo.2.1 (fun l hl hm => below_mem hl (List.mem_append_right _ hm)))
  rcases hy with rfl | rfl
  · cases rx; exact ⟨.inl rfl, hleave⟩
  · cases rx; exact ⟨.inr rfl, hleave⟩

/-- Any row, its capacity forgotten. -/
theorem Wk1.row {nl : Bool} {sz n : Nat} {el el' : Nat → List AV} {own : Own} (h : ∀ i, i < n → el i = el' i) : Wk1 (.rsl nl sz n el own) (.rsl nl sz n el' .non) := by
  intro E v hr
  cases hr with
  | rnil sz el own ho => exact .rnil sz _ .non (.inl rfl)
  | rodd sz el own a ho => exact .rodd sz _ .non a (.inl rfl)
  | rsl sz n el own b off c u hn ho hc hl h1 hS hk =>
    exact .rsl sz n el' .non b off c u hn (by cases own with
      | non => exact ho
      | tight => exact Nat.le_of_eq ho.symm
      | tok t => exact ho.2.2) hc (fun i hi => h i hi ▸ hl i hi) (fun i hi => h i hi ▸ h1 i hi) (fun i hi => h i hi ▸ hS i hi) (fun i hi => h i hi ▸ hk i hi)

theorem Wk1.tup {cs cs' : List AV} (h : Wk cs cs') : Wk1 (.tup cs) (.tup cs') := by
  intro E v hr
  cases hr with
  | tup cs us hs hk => exact .tup cs' us (hs.trans h.1) (fun j y hy => by obtain ⟨x, hx, k⟩ := h.2 j y hy; exact k _ _ (hk j x hx))
end Go.Proofs.YtiipaliigpkfhaaGreat.Ab
