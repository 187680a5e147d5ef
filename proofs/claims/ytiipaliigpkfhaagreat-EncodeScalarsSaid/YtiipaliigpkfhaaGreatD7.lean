/- Part 25: whole functions by the tree evaluator; what is forgotten; loops round by round. -/
import Derived.Test.YtiipaliigpkfhaaGreatD6
set_option linter.unusedVariables false
set_option linter.unusedSimpArgs false
set_option maxRecDepth 100000
namespace Go.Proofs.YtiipaliigpkfhaaGreat.Ab
open Go Go.RowKit

abbrev OrcT := FuncId → List AV → AHeap → Option (Tree (AV × AHeap × List Nat))

def OrcOk (P : Program) (orc : OrcT) : Prop := ∀ g args H t r, orc g args H = some t → t.sel = some r → Ctr P g args r.1 H r.2.1 r.2.2
def noneT : OrcT := fun _ _ _ => none
theorem noneT_ok (P : Program) : OrcOk P noneT := fun _ _ _ _ _ h => by cases h

/-- A function's end. -/
def endT (P : Program) (fn : Func) (H : AHeap) (r : OutE) : Tree (AV × AHeap × List Nat) :=
  match r.1 with
  | .normal | .ret => match resultC P r.2.2.1 fn r.2.1 with
    | some x => .leaf (x, r.2.2.1, below H.length r.2.2.2)
    | none => .bad
  | _ => .bad

def startA (fn : Func) (args : List AV) : List AV := args ++ List.replicate (fn.ntmps - args.length) .any

/-- A function's body, evaluated. -/
def bodyT (P : Program) (call : CallT) (lo : LoopO) (n : Nat) (fn : Func) (args : List AV) (H : AHeap) : Tree (AV × AHeap × List Nat) :=
  match fn.body with
  | none => .bad
  | some c => (evCT P call lo n c (startA fn args) H).bind (endT P fn H)

/-- Functions within functions; what is known of some beforehand, and of loops. -/
def evGL (P : Program) (orc : OrcT) (lo : FuncId → LoopO) : Nat → CallT
  | 0, _, _, _ => .bad
  | n + 1, g, args, H => match orc g args H with
    | some t => t
    | none => match P.funcs[g]? with
      | none => .bad
      | some fn => if (fn.name == "runtime.NumGoroutine") = true then .bad else bodyT P (evGL P orc lo n) (lo g) n fn args H

abbrev evGT (P : Program) (orc : OrcT) : Nat → CallT := evGL P orc (fun _ => noLoop)

theorem ctr_of_code {P : Program} {g : FuncId} {fn : Func} {c : Code} {args : List AV} {y : AExit} {T : List AV} {x : AV} {H H1 : AHeap} {W : List Nat} (hfn : P.funcs[g]? = some fn) (hname : (fn.name == "runtime.NumGoroutine") = false) (hbody : fn.body = some c)
    (hok : CodeOk P c (startA fn args) H y T H1 W) (hy : y = .normal ∨ y = .ret) (hres : resultC P H1 fn T = some x) : Ctr P g args x H H1 (below H.length W) := by
  refine ⟨⟨fn, c, hfn, hname, hbody⟩, ?_, hok.2.1, fun l hl hn => hok.2.2 l hl (fun hm => hn (below_mem hl hm))⟩
  intro E w0 w vs hg hr
  refine calls_of_wp hfn hbody ?_
  have ht : RelT E (startA fn args) (vs ++ Array.replicate (fn.ntmps - vs.size) undef) := by
    have h0 := relL_append hr (k := (⟨by simp [hr.1], fun i x hx => by
      have := List.mem_of_getElem? hx
      rw [List.mem_replicate] at this
      rw [this.2]; exact .any _⟩ : RelL E (List.replicate (fn.ntmps - args.length) .any) (Array.replicate (fn.ntmps - vs.size) undef)))
    exact h0
  refine wp_mono (hok.1 H.length (· ∈ below H.length W) (Nat.le_refl _) (fun l hl hn => below_mem hn hl) E w0 w ⟨_, []⟩ [] (Nat.le_refl _) hg ht rfl) ?_
  rintro e a' w' ⟨E', ax, T', H2, ⟨rfl, rfl, rfl⟩, r, ex, g', t, d⟩
  obtain ⟨v, hv, hrel⟩ := resultC_run g' t hres
  rcases hy with rfl | rfl
  · cases r; exact ⟨d, v, hv, E', .ret _ _ hrel, ex, g'⟩
  · cases r; exact ⟨d, v, hv, E', .ret _ _ hrel, ex, g'⟩

theorem bodyT_ok {P : Program} (hm : P.follows .mixedOrders = true) {call : CallT} (hc : CallTOk P call) {lo : LoopO} {n : Nat} {g : FuncId} {fn : Func} {args : List AV} {H : AHeap} {r : AV × AHeap × List Nat} (hfn : P.funcs[g]? = some fn) (hname : (fn.name == "runtime.NumGoroutine") = false)
    (hl : LoopsOk P lo) (h : (bodyT P call lo n fn args H).sel = some r) : Ctr P g args r.1 H r.2.1 r.2.2 := by
  unfold bodyT at h
  split at h
  · exact (Tree.sel_bad h).elim
  · rename_i c hb
    obtain ⟨⟨y, T, H1, W⟩, h1, h⟩ := sel_bind_some h
    have hok := evCT_ok hm hc hl n c _ _ _ _ _ _ h1
    unfold endT at h
    split at h
    · rename_i hy
      simp only at hy
      split at h
      · rename_i x hx; rw [Tree.sel_leaf h]; exact ctr_of_code hfn hname hb hok (.inl hy) hx
      · exact (Tree.sel_bad h).elim
    · rename_i hy
      simp only at hy
      split at h
      · rename_i x hx; rw [Tree.sel_leaf h]; exact ctr_of_code hfn hname hb hok (.inr hy) hx
      · exact (Tree.sel_bad h).elim
    · exact (Tree.sel_bad h).elim

theorem evGL_ok {P : Program} (hm : P.follows .mixedOrders = true) {orc : OrcT} (horc : OrcOk P orc) {lo : FuncId → LoopO} (hl : ∀ g, LoopsOk P (lo g)) : ∀ n, CallTOk P (evGL P orc lo n)
  | 0 => fun g args H r h => (Tree.sel_bad h).elim
  | n + 1 => fun g args H r h => by
    unfold evGL at h
    split at h
    · rename_i q hq; exact horc _ _ _ _ _ hq h
    · split at h
      · exact (Tree.sel_bad h).elim
      · rename_i fn hfn
        split at h
        · exact (Tree.sel_bad h).elim
        · rename_i hname
          exact bodyT_ok hm (evGL_ok hm horc hl n) hfn (by simpa using hname) (hl g) h

theorem evGT_ok {P : Program} (hm : P.follows .mixedOrders = true) {orc : OrcT} (horc : OrcOk P orc) (n : Nat) : CallTOk P (evGT P orc n) := evGL_ok hm horc (fun _ => noLoop_ok) n

/-- The answer of a function without labels, at the empty heap. -/
def ansA (r : AV × AHeap × List Nat) : AV := r.1

theorem via_some {α β : Type} {t : Tree α} {g : α → β} {F : Option β} {y : β} (h : t.via g = F) (hF : F = some y) : ∃ a, t.sel = some a ∧ g a = y := by
  rw [hF, Tree.via_eq] at h
  cases ha : t.sel with
  | none => rw [ha] at h; cases h
  | some a => rw [ha] at h; exact ⟨a, rfl, by simpa using h⟩

theorem ctr_sc {P : Program} (hm : P.follows .mixedOrders = true) {orc : OrcT} (horc : OrcOk P orc) {n : Nat} {g : FuncId} {args : List AV} {F : Option AV} {u : Value} (h : (evGT P orc n g args []).via ansA = F) (hF : F = some (.sc u)) (hargs : ∀ a ∈ args, LF a) (H : AHeap) : Ctr P g args (.sc u) H H [] := by
  obtain ⟨r, hr, hu⟩ := via_some h hF
  have := evGT_ok hm horc n g args [] r hr
  unfold ansA at hu
  rw [hu] at this
  exact ctr_frame this hargs H

/-! ### What is known of a call without being told -/
inductive Kind where
  | bool
  | int (k : IntKind)

def Kind.val : Kind → Int → Value
  | .bool, n => .bool (n == 1)
  | .int k, n => .int k n

/-- It answers something of its kind, wherever it is called. -/
def Known (P : Program) (k : Kind) (g : FuncId) (args : List AV) : Prop := ∃ n : Int, ∀ H : AHeap, Ctr P g args (.sc (k.val n)) H H []

open Classical in
noncomputable def knownB (P : Program) (k : Kind) (g : FuncId) (args : List AV) : Bool := decide (Known P k g args)
open Classical in
noncomputable def knownN (P : Program) (k : Kind) (g : FuncId) (args : List AV) : Int := if h : Known P k g args then h.choose else 0

theorem knownB_of {P : Program} {k : Kind} {g : FuncId} {args : List AV} (h : Known P k g args) : knownB P k g args = true := by simp [knownB, h]
theorem knownB_ctr {P : Program} {k : Kind} {g : FuncId} {args : List AV} (h : knownB P k g args = true) (H : AHeap) : Ctr P g args (.sc (k.val (knownN P k g args))) H H [] := by
  have h' : Known P k g args := by simpa [knownB] using h
  unfold knownN
  rw [dif_pos h']
  exact h'.choose_spec H

noncomputable def knownT (P : Program) (k : Kind) (g : FuncId) (args : List AV) (H : AHeap) : Tree (AV × AHeap × List Nat) := .br (knownB P k g args) (.leaf (.sc (k.val (knownN P k g args)), H, [])) .bad
theorem knownT_ok {P : Program} {k : Kind} {g : FuncId} {args : List AV} {H : AHeap} {r : AV × AHeap × List Nat} (h : (knownT P k g args H).sel = some r) : Ctr P g args r.1 H r.2.1 r.2.2 := by
  rcases Tree.sel_br h with ⟨hb, h⟩ | ⟨_, h⟩
  · rw [Tree.sel_leaf h]; exact knownB_ctr hb H
  · exact (Tree.sel_bad h).elim

theorem ctr_scL {P : Program} (hm : P.follows .mixedOrders = true) {orc : OrcT} (horc : OrcOk P orc) {lo : FuncId → LoopO} (hl : ∀ g, LoopsOk P (lo g)) {n : Nat} {g : FuncId} {args : List AV} {F : Option AV} {u : Value} (h : (evGL P orc lo n g args []).via ansA = F) (hF : F = some (.sc u)) (hargs : ∀ a ∈ args, LF a) (H : AHeap) : Ctr P g args (.sc u) H H [] := by
  obtain ⟨r, hr, hu⟩ := via_some h hF
  have := evGL_ok hm horc hl n g args [] r hr
  unfold ansA at hu
  rw [hu] at this
  exact ctr_frame this hargs H

/-! ### What is told and asked at once whether it holds -/
open Classical in
noncomputable def loopB (P : Program) (c : Code) (T : List AV) (H : AHeap) (t : Tree OutE) : Bool := decide (∀ x T' H' Wr, t.sel = some (x, T', H', Wr) → CodeOk P (.loop c) T H x T' H' Wr)
open Classical in
noncomputable def callB (P : Program) (g : FuncId) (args : List AV) (H : AHeap) (t : Tree (AV × AHeap × List Nat)) : Bool := decide (∀ r, t.sel = some r → Ctr P g args r.1 H r.2.1 r.2.2)

theorem loopB_of {P : Program} {c : Code} {T : List AV} {H : AHeap} {t : Tree OutE} (h : ∀ x T' H' Wr, t.sel = some (x, T', H', Wr) → CodeOk P (.loop c) T H x T' H' Wr) : loopB P c T H t = true := by simp only [loopB, decide_eq_true_eq]; exact h
theorem callB_of {P : Program} {g : FuncId} {args : List AV} {H : AHeap} {t : Tree (AV × AHeap × List Nat)} (h : ∀ r, t.sel = some r → Ctr P g args r.1 H r.2.1 r.2.2) : callB P g args H t = true := by simp only [callB, decide_eq_true_eq]; exact h

/-- A loop by what is told of it. -/
noncomputable def loopT (P : Program) (c : Code) (T : List AV) (H : AHeap) (t : Tree OutE) : Tree OutE := .br (loopB P c T H t) t .bad
noncomputable def callT (P : Program) (g : FuncId) (args : List AV) (H : AHeap) (t : Tree (AV × AHeap × List Nat)) : Tree (AV × AHeap × List Nat) := .br (callB P g args H t) t .bad

/-- Loops told by the number of their first row. -/
noncomputable def loopsBy (P : Program) (tell : Nat → List AV → AHeap → Option (Tree OutE)) : LoopO := ⟨fun c T H => match fstReg c with
  | some i => match tell i T H with
    | some t => some (loopT P c T H t)
    | none => none
  | none => none, fun _ _ _ _ => none⟩

theorem loopsBy_ok {P : Program} {tell : Nat → List AV → AHeap → Option (Tree OutE)} : LoopsOk P (loopsBy P tell) := by
  refine ⟨fun c T H t x T' H' Wr h hr => ?_, noSite_ok⟩
  unfold loopsBy at h
  simp only at h
  split at h
  · split at h
    · cases h
      rcases Tree.sel_br hr with ⟨hb, hr⟩ | ⟨_, hr⟩
      · simp only [loopB, decide_eq_true_eq] at hb
        exact hb _ _ _ _ hr
      · exact (Tree.sel_bad hr).elim
    · cases h
  · cases h

noncomputable def callsBy (P : Program) (tell : FuncId → List AV → AHeap → Option (Tree (AV × AHeap × List Nat))) : OrcT := fun g args H => match tell g args H with
  | some t => some (callT P g args H t)
  | none => none

theorem callsBy_ok {P : Program} {tell : FuncId → List AV → AHeap → Option (Tree (AV × AHeap × List Nat))} : OrcOk P (callsBy P tell) := by
  intro g args H t r h hr
  unfold callsBy at h
  split at h
  · cases h
    rcases Tree.sel_br hr with ⟨hb, hr⟩ | ⟨_, hr⟩
    · simp only [callB, decide_eq_true_eq] at hb
      exact hb _ hr
    · exact (Tree.sel_bad hr).elim
  · cases h
end Go.Proofs.YtiipaliigpkfhaaGreat.Ab
