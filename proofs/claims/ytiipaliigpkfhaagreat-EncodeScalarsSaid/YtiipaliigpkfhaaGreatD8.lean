/- Part 26: what is known may be forgotten; loops, round by round. -/
import Derived.Test.YtiipaliigpkfhaaGreatD7
set_option linter.unusedVariables false
set_option linter.unusedSimpArgs false
set_option maxRecDepth 100000
namespace Go.Proofs.YtiipaliigpkfhaaGreat.Ab
open Go Go.RowKit

/-- One abstract value tells no more than another. -/
def Wk1 (x y : AV) : Prop := ∀ (E : Env) (v : Value), Rel E x v → Rel E y v
def Wk (T T' : List AV) : Prop := T.length = T'.length ∧ ∀ (i : Nat) (y : AV), T'[i]? = some y → ∃ x, T[i]? = some x ∧ Wk1 x y

theorem Wk1.refl (x : AV) : Wk1 x x := fun _ _ h => h
theorem Wk1.any (x : AV) : Wk1 x .any := fun _ v _ => .any v
theorem Wk1.of_eq {x y : AV} (h : x = y) : Wk1 x y := h ▸ .refl x
theorem Wk1.trans {x y z : AV} (h : Wk1 x y) (k : Wk1 y z) : Wk1 x z := fun E v r => k E v (h E v r)
theorem Wk.refl (T : List AV) : Wk T T := ⟨rfl, fun i y h => ⟨y, h, .refl y⟩⟩
theorem Wk.trans {T T1 T2 : List AV} (h : Wk T T1) (k : Wk T1 T2) : Wk T T2 := ⟨h.1.trans k.1, fun i z hz => by
  obtain ⟨y, hy, k1⟩ := k.2 i z hz
  obtain ⟨x, hx, k2⟩ := h.2 i y hy
  exact ⟨x, hx, k2.trans k1⟩⟩
theorem Wk.nil : Wk [] [] := .refl _
theorem Wk.cons {x y : AV} {T T' : List AV} (h : Wk1 x y) (k : Wk T T') : Wk (x :: T) (y :: T') := ⟨by simp [k.1], fun i z hz => by
  cases i with
  | zero => simp at hz; subst hz; exact ⟨x, rfl, h⟩
  | succ i => simp at hz; obtain ⟨w, hw, k1⟩ := k.2 i z hz; exact ⟨w, by simpa using hw, k1⟩⟩

/-- A row's cells, seen otherwise. -/
theorem Wk1.rsl {nl : Bool} {sz n : Nat} {el el' : Nat → List AV} {own : Own} (h : ∀ i, i < n → el i = el' i) : Wk1 (.rsl nl sz n el own) (.rsl nl sz n el' own) := by
  intro E v hr
  cases hr with
  | rnil sz el own ho => exact .rnil sz _ own ho
  | rodd sz el own a ho => exact .rodd sz _ own a ho
  | rsl sz n el own b off c u hn ho hc hl h1 hS hk =>
    exact .rsl sz n el' own b off c u hn ho hc (fun i hi => h i hi ▸ hl i hi) (fun i hi => h i hi ▸ h1 i hi) (fun i hi => h i hi ▸ hS i hi) (fun i hi => h i hi ▸ hk i hi)

theorem Wk1.agg {cs cs' : List AV} (h : Wk cs cs') : Wk1 (.agg cs) (.agg cs') := by
  intro E v hr
  cases hr with
  | agg cs us hs hk => exact .agg cs' us (hs.trans h.1) (fun j y hy => by obtain ⟨x, hx, k⟩ := h.2 j y hy; exact k _ _ (hk j x hx))

theorem RelT.wk {E : Env} {T T' : List AV} {tmps : Array Value} (h : RelT E T tmps) (w : Wk T T') : RelT E T' tmps :=
  ⟨h.1.trans w.1, fun i y hy => by obtain ⟨x, hx, k⟩ := w.2 i y hy; exact k _ _ (h.2 i x hx)⟩

section
variable {P : Program} {c : Code} {T T1 T' T'' : List AV} {H H' : AHeap} {x : AExit} {Wr : List Nat}

theorem CodeOk.weak (h : CodeOk P c T H x T' H' Wr) (w : Wk T' T'') : CodeOk P c T H x T'' H' Wr :=
  ⟨fun n0 W hn hW E w0 w1 a D hn' hg ht hd => wp_mono (h.1 n0 W hn hW E w0 w1 a D hn' hg ht hd) (fun e a w2 ⟨E', ax, T2, H2, ⟨q1, q2, q3⟩, r, ex, g, t, d⟩ => ⟨E', ax, T'', H2, ⟨q1, rfl, q3⟩, r, ex, g, (q2 ▸ t).wk w, d⟩), h.2⟩

theorem CodeOk.weakIn (h : CodeOk P c T1 H x T' H' Wr) (w : Wk T T1) : CodeOk P c T H x T' H' Wr :=
  ⟨fun n0 W hn hW E w0 w1 a D hn' hg ht hd => h.1 n0 W hn hW E w0 w1 a D hn' hg (ht.wk w) hd, h.2⟩

theorem CodeOk.wr {Wr' : List Nat} (h : CodeOk P c T H x T' H' Wr) (w : ∀ l ∈ Wr, l < H.length → l ∈ Wr') : CodeOk P c T H x T' H' Wr' :=
  ⟨fun n0 W hn hW => h.1 n0 W hn (fun l hl hlt => hW l (w l hl (Nat.lt_of_lt_of_le hlt hn)) hlt), h.2.1, fun l hl hm => h.2.2 l hl (fun hm' => hm (w l hm' hl))⟩
end

/-! ### Labels above a line are forgotten -/
theorem Ext.trim {n0 n : Nat} {W : Nat → Prop} {E E' : Env} {H H' : AHeap} {w0 w w' : World} (g : Good E H w0 w) (h : Ext n0 W E H w E' H' w') (hn0 : n0 ≤ H.length) (hn : H.length ≤ n) : Ext n0 W E H w (E'.cut n) (H'.take n) w' := by
  have hlt : ∀ l, (∃ b, E.φ l = some b) ∨ (∃ m x, E.G l m = some x) → l < n := by
    intro l hl
    by_cases hh : l < H.length
    · omega
    · have := g.fresh (Nat.le_of_not_lt hh)
      rcases hl with ⟨b, hb⟩ | ⟨m, x, hx⟩
      · rw [this.1] at hb; cases hb
      · rw [this.2] at hx; cases hx
  refine ⟨⟨fun {l b} hl => ?_, fun h' => h.le.S h', fun {t m x} hl => ?_⟩, h.size, by have := h.len; simp; omega, fun {l} hl hw => ?_, fun hl hw ho => h.keep hl hw ho, fun {l} hl => by simp only [Env.cut]; rw [if_pos (by omega)]; exact h.old hl, fun hb h0 => ⟨(h.stay hb h0).1, fun l ho => (h.stay hb h0).2.1 l (owns_cut ho).2, (h.stay hb h0).2.2⟩⟩
  · have := hlt l (.inl ⟨b, hl⟩); simp [Env.cut, this, h.le.φ hl]
  · have := hlt t (.inr ⟨m, x, hl⟩); simp [Env.cut, this, h.le.G hl]
  · rw [List.getElem?_take, if_pos (by omega)]; exact h.same hl hw

def noPanic : AExit → Bool
  | .panic _ => false
  | _ => true

theorem CodeOk.trim {P : Program} {c : Code} {T T' : List AV} {H H' : AHeap} {x : AExit} {Wr : List Nat} {n : Nat} (h : CodeOk P c T H x T' H' Wr) (hn : H.length ≤ n) (hT : lbAs n T' = true) (hH : ∀ o ∈ H'.take n, objLB n o = true) (hx : noPanic x = true) : CodeOk P c T H x T' (H'.take n) Wr := by
  refine ⟨fun n0 W hn0 hW E w0 w1 a D hn' hg ht hd => wp_mono (h.1 n0 W hn0 hW E w0 w1 a D hn' hg ht hd) ?_, ?_, fun l hl hm => ?_⟩
  · rintro e a w2 ⟨E', ax, T2, H2, ⟨rfl, rfl, rfl⟩, r, ex, g, t, d⟩
    refine ⟨E'.cut n, ax, T2, _, ⟨rfl, rfl, rfl⟩, ?_, ex.trim hg hn' hn, g.trim hH, ⟨t.1, fun i y hy => (t.2 i y hy).cut (lbAs_mem hT y (List.mem_of_getElem? hy))⟩, d⟩
    cases r with
    | normal => exact .normal
    | exit i => exact .exit i
    | goto i => exact .goto i
    | ret => exact .ret
    | panic x v hv => simp [noPanic] at hx
  · have := h.2.1; simp; omega
  · rw [List.getElem?_take, if_pos (by omega)]; exact h.2.2 l hl hm

/-! ### Beside what else there is -/
theorem CodeOk.beside {P : Program} {c : Code} {T T' : List AV} {H : AHeap} {x : AExit} (h : CodeOk P c T H x T' H []) (hT : lbAs H.length T = true) (hT' : lbAs H.length T' = true) (hH : ∀ o ∈ H, objLB H.length o = true) (hx : noPanic x = true) (J : AHeap) : CodeOk P c T (H ++ J) x T' (H ++ J) [] := by
  refine ⟨fun n0 W hn0 hW E w0 w a D hn hg ht hd => ?_, .refl _ _⟩
  have ht0 : RelT (E.cut H.length) T a.tmps := ⟨ht.1, fun i x hx => (ht.2 i x hx).cut (lbAs_mem hT x (List.mem_of_getElem? hx))⟩
  refine wp_mono (h.1 H.length (fun _ => False) (Nat.le_refl _) (fun l hl => by simp at hl) (E.cut H.length) w0 w a D (Nat.le_refl _) (good_part hg hH) ht0 hd) ?_
  rintro e a' w' ⟨E', ax, T2, H2, ⟨rfl, rfl, rfl⟩, r, ex, g, t, d⟩
  obtain ⟨E2, ex2, g2, conv⟩ := merge_state (n0 := n0) (W := W) hg ex g hH
  refine ⟨E2, ax, T2, _, ⟨rfl, rfl, rfl⟩, ?_, ex2, g2, ⟨t.1, fun i y hy => conv _ _ (t.2 i y hy) (lbAs_mem hT' y (List.mem_of_getElem? hy))⟩, d⟩
  cases r with
  | normal => exact .normal
  | exit i => exact .exit i
  | goto i => exact .goto i
  | ret => exact .ret
  | panic x v hv => simp [noPanic] at hx

/-- A row that is too long is none. -/
theorem CodeOk.long {P : Program} {c : Code} {T T' : List AV} {H : AHeap} {x : AExit} {i n sz : Nat} {nl : Bool} {el : Nat → List AV} {own : Own} (h : T[i]? = some (.rsl nl sz n el own)) (hn : maxLen < n) : CodeOk P c T H x T' H [] := by
  refine ⟨fun n0 W hn0 hW E w0 w a D hn' hg ht hd => ?_, .refl _ _⟩
  have := ht.2 i _ h
  generalize a.tmps.getD i undef = v at this
  cases this with
  | rnil => omega
  | rodd => omega
  | rsl sz n el own b off c u h1 ho h2 => omega

/-! ### What is kept of the temporaries -/
def fgo : Nat → List Nat → List AV → List AV
  | _, _, [] => []
  | i, ks, x :: r => (if ks.contains i then x else .any) :: fgo (i + 1) ks r

theorem fgo_wk : ∀ (T : List AV) (i : Nat) (ks : List Nat), Wk T (fgo i ks T)
  | [], i, ks => .refl _
  | x :: r, i, ks => .cons (by by_cases h : ks.contains i = true <;> simp only [h, if_true, if_false, Bool.false_eq_true]; exact .refl x; exact .any x) (fgo_wk r (i + 1) ks)

def anyA : AV → Bool
  | .any => true
  | _ => false
/-- A list of temporaries told by a few places. -/
def tmA (n : Nat) (l : List (Nat × AV)) : List AV := (List.range n).map fun i => match l.find? (·.1 == i) with
  | some (_, x) => x
  | none => .any

/-- Told places, each told no less. -/
inductive WkE : List (Nat × AV) → List (Nat × AV) → Prop where
  | nil : WkE [] []
  | cons {i : Nat} {x y : AV} {l l' : List (Nat × AV)} (h : Wk1 x y) (k : WkE l l') : WkE ((i, x) :: l) ((i, y) :: l')

theorem Wk.tm {n : Nat} {l l' : List (Nat × AV)} (h : WkE l l') : Wk (tmA n l) (tmA n l') := by
  have key : ∀ i : Nat, Wk1 (match l.find? (·.1 == i) with | some (_, x) => x | none => .any) (match l'.find? (·.1 == i) with | some (_, x) => x | none => .any) := by
    intro i
    induction h with
    | nil => exact .refl _
    | @cons k x y l l' h1 h2 ih =>
      simp only [List.find?_cons]
      cases hki : k == i with
      | true => exact h1
      | false => exact ih
  refine ⟨by simp [tmA], fun i y hy => ?_⟩
  unfold tmA at hy ⊢
  rw [List.getElem?_map] at hy
  cases hr : (List.range n)[i]? with
  | none => rw [hr] at hy; cases hy
  | some k =>
    rw [hr] at hy
    simp only [Option.map_some, Option.some.injEq] at hy
    subst hy
    refine ⟨_, by rw [List.getElem?_map, hr]; rfl, key k⟩

structure Tidy where
  x : AExit
  T : List AV
  H : AHeap
  W : List Nat
  ok : Bool

def tidy (ks : List Nat) (n : Nat) (r : OutE) : Tidy := ⟨r.1, fgo 0 ks r.2.1, r.2.2.1.take n, below n r.2.2.2, lbAs n (fgo 0 ks r.2.1) && (r.2.2.1.take n).all (objLB n) && noPanic r.1⟩

theorem code_tidy {P : Program} (hm : P.follows .mixedOrders = true) {call : CallT} (hc : CallTOk P call) {lo : LoopO} {k n : Nat} {c : Code} {T T1 : List AV} {H H1 : AHeap} {ks : List Nat} {x : AExit} {W1 : List Nat} {F : Option Tidy} (hl : LoopsOk P lo) (h : (evCT P call lo k c T H).via (tidy ks n) = F)
    (hF : F = some ⟨x, T1, H1, W1, true⟩) (hn : H.length ≤ n) : CodeOk P c T H x T1 H1 W1 := by
  obtain ⟨⟨y, T2, H2, W2⟩, hr, hg⟩ := via_some h hF
  have hok := evCT_ok hm hc hl k c _ _ _ _ _ _ hr
  simp only [tidy, Tidy.mk.injEq, Bool.and_eq_true] at hg
  obtain ⟨rfl, rfl, rfl, rfl, ⟨h1, h2⟩, h3⟩ := hg
  exact ((hok.weak (fgo_wk _ _ _)).trim hn h1 (by simpa using h2) h3).wr (fun l hl hlt => below_mem (by omega) hl)

/-! ### Rounds -/
inductive Rounds (P : Program) (c : Code) (x : AExit) (T' : List AV) (H' : AHeap) : Nat → List AV → AHeap → List Nat → Prop where
  | out {T : List AV} {H : AHeap} {W : List Nat} (h : CodeOk P c T H x T' H' W) (hx : x ≠ .normal) : Rounds P c x T' H' 0 T H W
  | next {T T1 : List AV} {H H1 : AHeap} {W W' : List Nat} {k : Nat} (h : CodeOk P c T H .normal T1 H1 W) (r : Rounds P c x T' H' k T1 H1 W') : Rounds P c x T' H' (k + 1) T H (W ++ W')

theorem Rounds.keeps {P : Program} {c : Code} {x : AExit} {T' : List AV} {H' : AHeap} {k : Nat} {T : List AV} {H : AHeap} {W : List Nat} (h : Rounds P c x T' H' k T H W) : Keeps H H' W := by
  induction h with
  | out h hx => exact h.2
  | next h r ih => exact h.2.trans ih

theorem Rounds.ok {P : Program} {c : Code} {x : AExit} {T' : List AV} {H' : AHeap} {k : Nat} {T : List AV} {H : AHeap} {Wr : List Nat} (h : Rounds P c x T' H' k T H Wr) : CodeOk P (.loop c) T H x T' H' Wr := by
  refine ⟨fun n0 W hn hW => ?_, h.keeps⟩
  refine wpA_loop (fun m T2 H2 => ∃ W2, Rounds P c x T' H' m T2 H2 W2 ∧ (∀ l ∈ W2, l < n0 → W l) ∧ n0 ≤ H2.length) k ⟨Wr, h, hW, hn⟩ ?_
  rintro m T2 H2 ⟨W2, hr, hW2, hn2⟩
  cases hr with
  | out h hx =>
    refine h.then hn2 hW2 ?_
    cases x with
    | normal => exact absurd rfl hx
    | exit i => exact ⟨rfl, rfl, rfl⟩
    | goto i => exact ⟨rfl, rfl, rfl⟩
    | ret => exact ⟨rfl, rfl, rfl⟩
    | panic y => exact ⟨rfl, rfl, rfl⟩
  | next h r =>
    refine h.then hn2 (fun l hl => hW2 l (List.mem_append_left _ hl)) ?_
    exact ⟨_, Nat.lt_succ_self _, _, r, fun l hl => hW2 l (List.mem_append_right _ hl), Nat.le_trans hn2 h.2.1⟩

/-- Round after round, without a count. -/
def Laps (P : Program) (c : Code) (x : AExit) (T' : List AV) (H' : AHeap) (T : List AV) (H : AHeap) (W : List Nat) : Prop := ∃ k, Rounds P c x T' H' k T H W
end Go.Proofs.YtiipaliigpkfhaaGreat.Ab
