/- Part L1: rounds of a range over a function: their bodies walked in a round's frame. -/
import Derived.Test.YtiipaliigpkfhaaGreatDD
import Derived.RangeFuncCalls
set_option linter.unusedVariables false
set_option linter.unusedSimpArgs false
set_option maxRecDepth 100000
namespace Go.Proofs.YtiipaliigpkfhaaGreat.Ab
open Go Go.RowKit

/-- A fence that lets all in. -/
structure Open1 (F : Fence) : Prop where
  fn : ∀ f, F.fn f
  depth : F.depth = none
  rows : ∀ {n : Nat} {P : Program} {row : String} {args : Array Value} {w : World} {R : Value → World → Prop}, Rows P row args w R → RowsIn F n P row args w R
  calls : ∀ {n : Nat} {P : Program} {f : FuncId} {args : Array Value} {w : World} {R : Ending → World → Prop}, Calls P f args w R → CallsIn F n P f args w R

theorem rows_wide {n : Nat} {P : Program} {row : String} {args : Array Value} {w : World} {R : Value → World → Prop} (h : Rows P row args w R) : RowsIn Fence.wide n P row args w R :=
  fun c cs _ => let ⟨v, w', r, s⟩ := h c cs; ⟨v, w', r, stepsIn_wide.2 s⟩
theorem open_wide : Open1 Fence.wide := ⟨fun _ => trivial, rfl, rows_wide, fun h => callsIn_wide.2 h⟩
theorem open_round (l : Nat) : Open1 (Fence.wide.inRound l) := ⟨fun _ => trivial, rfl, fun h => rows_wide h, fun {n P f args w R} h => CallsIn.inRound l (callsIn_wide.2 h)⟩

def noDefer (ops : Array Oper) : Bool := ops.toList.all fun o => match o.op with | .defer _ => false | _ => true

theorem noDefer_get {ops : Array Oper} (h : noDefer ops = true) {i : Nat} {o : Oper} (ho : ops[i]? = some o) : ∀ c, o.op ≠ .defer c := by
  intro c e
  unfold noDefer at h
  rw [List.all_eq_true] at h
  have := h o (Array.mem_toList_iff.2 (Array.mem_of_getElem? ho))
  rw [e] at this
  cases this

theorem OpR.wpIn {F : Fence} (hF : Open1 F) {n : Nat} {P : Program} {o : Oper} {a : Act} {w : World} {K : Value → World → Prop} {next : Act → World → Prop} {Q : Exit → Act → World → Prop} (hd : ∀ c, o.op ≠ .defer c) (h : OpR P o a.eval w K) (hk : ∀ v w', K v w' → next (a.put o.dst v) w') : o.wpIn F n P a w next Q := by
  refine ⟨fun f _ => hF.fn f, ?_⟩
  rw [Oper.semAt_eq _ _ _ hd]
  unfold OpR at h
  split at h
  · rename_i v w' hr; rw [hr]; exact hk _ _ h
  · rename_i w' hr; rw [hr]; exact hk _ _ h
  · rename_i f args w' hr
    rw [hr, Oper.uponIn_enter]
    refine ⟨fun hs => absurd hs (by rw [hF.depth]; simp), hF.calls (h.mono ?_)⟩
    intro e w'' he
    cases e with
    | returned v => exact hk _ _ he
    | panicked c => exact he.elim
    | outgrown => exact he.elim
  · exact h.elim

theorem RunA.soundIn {F : Fence} (hF : Open1 F) {n : Nat} {P : Program} {ops : Array Oper} (hnd : noDefer ops = true) {Q : Exit → Act → World → Prop} {is : List Nat} {T T' : List AV} {H H' : AHeap} {W : List Nat} (h : RunA P ops is T H T' H' W) (rest : List Nat) :
    ∀ {n0 : Nat} {E : Env} {w0 w : World} {a : Act}, n0 ≤ H.length → Good E H w0 w → RelT E T a.tmps →
      (∀ (E' : Env) (a' : Act) (w' : World), Ext n0 (· ∈ W) E H w E' H' w' → Good E' H' w0 w' → RelT E' T' a'.tmps → a'.defers = a.defers → wpOpsIn F n P ops Q rest a' w') →
      wpOpsIn F n P ops Q (is ++ rest) a w := by
  induction h with
  | nil T H =>
    intro n0 E w0 w a hn hg ht hk
    exact hk E a w (.refl _ _ _ _ _) hg ht rfl
  | @skip i rest' o T T' H H' W ho hw hr ih =>
    intro n0 E w0 w a hn hg ht hk
    simp only [List.cons_append, wpOpsIn, ho, wanted_eq ht hw, if_false, Bool.false_eq_true]
    refine ⟨fun f _ => hF.fn f, ih hn hg (put_rel ht o.dst (skip_rel _)) (fun E' a' w' he hg' ht' hd => ?_)⟩
    exact hk E' a' w' he hg' ht' (hd.trans (put_defers' _ _ _))
  | @step i rest' o x T T' H H1 H' W1 W ho hw hs hr ih =>
    intro n0 E w0 w a hn hg ht hk
    simp only [List.cons_append, wpOpsIn, ho, wanted_eq ht hw, if_true]
    refine (hs E w0 w a.eval hg (ht.o o)).wpIn hF (noDefer_get hnd ho) ?_
    rintro v w' ⟨E', he, hg', hv⟩
    refine ih (Nat.le_trans hn he.len) hg' (put_rel (ht.mono he.le) o.dst hv) (fun E2 a2 w2 he2 hg2 ht2 hd => ?_)
    refine hk E2 a2 w2 ?_ hg2 ht2 (hd.trans (put_defers' _ _ _))
    exact (he.weaken hn (fun l _ hl => List.mem_append_left _ hl)).trans (he2.weaken (Nat.le_refl _) (fun l _ hl => List.mem_append_right _ hl))

/-- From the plain walk of operations to the fenced one. -/
theorem ops_in {F : Fence} (hF : Open1 F) {n : Nat} {P : Program} {ops : Array Oper} (hnd : noDefer ops = true) {Q : Exit → Act → World → Prop} (hQ : ¬ LetsOut Q) : ∀ (l : List Nat) (a : Act) (w : World), wpOps P ops Q l a w → wpOpsIn F n P ops Q l a w
  | [], a, w, h => h
  | i :: rest, a, w, h => by
    have ih := ops_in (P := P) (n := n) hF hnd hQ rest
    simp only [wpOps] at h
    simp only [wpOpsIn]
    cases ho : ops[i]? with
    | none => simp only [ho] at h ⊢; exact ih _ _ h
    | some o =>
      simp only [ho] at h ⊢
      by_cases hw : Region.wanted o (yielded ops a.tmps) = true
      · simp only [hw, if_true] at h ⊢
        rcases h with h | ⟨_, a0, w0, hq⟩
        · refine ⟨fun f _ => hF.fn f, ?_⟩
          rw [Oper.semAt_eq _ _ _ (noDefer_get hnd ho)]
          unfold Oper.wp at h
          generalize (execOp a.eval o).run P w = res at h
          cases res with
          | ok x w' =>
            cases x with
            | value v => exact ih _ _ h
            | skip => exact ih _ _ h
            | defer d => exact ih _ _ h
            | enter f args =>
              refine ⟨fun hs => absurd hs (by rw [hF.depth]; simp), hF.calls (Calls.mono h ?_)⟩
              intro e w'' he
              cases e with
              | returned v => exact ih _ _ he
              | panicked c => exact he
              | outgrown => exact he
            | row row args =>
              refine ⟨fun hs => absurd hs (by rw [hF.depth]; simp), ?_⟩
              exact RowsIn.mono (hF.rows h) (fun v w' hv => ih _ _ hv)
            | _ => exact (show False from h).elim
          | halt x w' =>
            cases x with
            | panic v => exact h
            | _ => exact (show False from h).elim
        · exact absurd ⟨a0, w0, hq⟩ hQ
      · simp only [hw, if_false, Bool.false_eq_true] at h ⊢
        exact ⟨fun f _ => hF.fn f, ih _ _ h⟩


/-! ### Code in a round's frame -/
def wpAR (P : Program) (r n0 : Nat) (W : Nat → Prop) (c : Code) (Q : AExit → List AV → AHeap → Prop) (T : List AV) (H : AHeap) : Prop :=
  ∀ (E : Env) (w0 w : World) (a : Act) (D : List Deferred), n0 ≤ H.length → Good E H w0 w → RelT E T a.tmps → a.defers = D → c.wpIn (Fence.wide.inRound r) 0 P (PostA n0 W Q E H w0 w D) a w

section
variable {P : Program} {r n0 : Nat} {W : Nat → Prop} {Q : AExit → List AV → AHeap → Prop} {T : List AV} {H : AHeap}

theorem wpAR_mono {c : Code} {Q' : AExit → List AV → AHeap → Prop} (h : wpAR P r n0 W c Q T H) (hq : ∀ x T H, Q x T H → Q' x T H) : wpAR P r n0 W c Q' T H :=
  fun E w0 w a D hn hg ht hd => wpIn_mono (h E w0 w a D hn hg ht hd) (fun _ _ _ ⟨E', x, T', H', q, r⟩ => ⟨E', x, T', H', hq _ _ _ q, r⟩)
theorem wpAR_skip (h : Q .normal T H) : wpAR P r n0 W .skip Q T H :=
  fun E w0 w a D hn hg ht hd => wpIn_skip ⟨E, _, T, H, h, .normal, .refl _ _ _ _ _, hg, ht, hd⟩
theorem wpAR_exit {id : Nat} (h : Q (.exit id) T H) : wpAR P r n0 W (.exit id) Q T H :=
  fun E w0 w a D hn hg ht hd => wpIn_exit ⟨E, _, T, H, h, .exit id, .refl _ _ _ _ _, hg, ht, hd⟩
theorem wpAR_ret (h : Q .ret T H) : wpAR P r n0 W .ret Q T H :=
  fun E w0 w a D hn hg ht hd => wpIn_ret ⟨E, _, T, H, h, .ret, .refl _ _ _ _ _, hg, ht, hd⟩

theorem wpAR_chain {id : Nat} {ops : Array Oper} {tr : Tr} {T' : List AV} {H' : AHeap} {L : Log} (hnd : noDefer ops = true) (hc : Chain P ops false tr (List.range ops.size) T H T' H' L) (hW : ∀ l ∈ wrs L, l < n0 → W l) (h : Q .normal T' H') : wpAR P r n0 W (.region id ops false) Q T H := by
  intro E w0 w a D hn hg ht hd
  refine wpIn_region ?_
  have := hc.run.soundIn (open_round r) (n := 0) hnd (Q := PostA n0 W Q E H w0 w D) [] hn hg ht (fun E' a' w' he hg' ht' hd' => ⟨E', _, T', H', h, .normal, he.weaken (Nat.le_refl _) (fun l hl hm => hW l hm hl), hg', ht', hd'.trans hd⟩)
  rwa [List.append_nil] at this

theorem noOut {E : Env} {w0 w : World} {D : List Deferred} : ¬ LetsOut (PostA n0 W Q E H w0 w D) := by
  rintro ⟨a, w', E', x, T', H', _, hr, _⟩
  cases hr

theorem wpAR_chain_draw {id : Nat} {ops : Array Oper} {tr : Tr} {T' : List AV} {H' : AHeap} {L : Log} {res : AHeap} (hnd : noDefer ops = true) (hm : P.follows .mixedOrders = true) (hres : ∀ o ∈ res, idle o = true) (hc : Chain P ops true tr (List.range ops.size) T (H ++ res) T' H' L) (hW : ∀ l ∈ wrs L, l < n0 → W l) (hdr : drawOk ops H.length (H ++ res).length L = true)
    (h : Q .normal T' H') : wpAR P r n0 W (.region id ops true) Q T H := by
  intro E w0 w a D hn hg ht hd
  refine wpIn_region_draw fun t => ?_
  simp only [Region.schedule, hm, Bool.true_or, if_true]
  exact ops_in (open_round r) hnd noOut _ _ _ (wpAny_sound ops.size t _ a _ (chain_any hres hc hW hdr h E w0 w a D hn hg ht hd))

theorem wpAR_seq {x y : Code} (h : wpAR P r n0 W x (AExit.then (fun T H => wpAR P r n0 W y Q T H) Q) T H) : wpAR P r n0 W (.seq x y) Q T H := by
  intro E w0 w a D hn hg ht hd
  refine wpIn_seq (wpIn_mono (h E w0 w a D hn hg ht hd) ?_)
  rintro e a' w' ⟨E', ax, T', H', q, r, ex, g, t, d⟩
  cases r with
  | normal => exact wpIn_mono (q E' w0 w' a' D (Nat.le_trans hn ex.len) g t d) (fun e a w hp => hp.chain ex)
  | exit id => exact ⟨E', _, T', H', q, .exit id, ex, g, t, d⟩
  | goto l => exact ⟨E', _, T', H', q, .goto l, ex, g, t, d⟩
  | ret => exact ⟨E', _, T', H', q, .ret, ex, g, t, d⟩
  | panic x v hv => exact ⟨E', _, T', H', q, .panic x v hv, ex, g, t, d⟩

theorem wpAR_cond {c : Operand} {x y : Code} {b : Bool} (hc : opdA T c = .sc (.bool b)) (h : wpAR P r n0 W (if b then x else y) Q T H) : wpAR P r n0 W (.cond c x y) Q T H := by
  intro E w0 w a D hn hg ht hd
  have hr := opd_rel ht c
  rw [hc] at hr
  generalize hv : a.eval c = v at hr
  cases hr with
  | sc v hp => exact wpIn_cond hv (h E w0 w a D hn hg ht hd)

theorem wpAR_block {id : Nat} {c : Code} (h : wpAR P r n0 W c (AExit.inBlock id Q) T H) : wpAR P r n0 W (.block id c) Q T H := by
  intro E w0 w a D hn hg ht hd
  refine wpIn_block (wpIn_mono (h E w0 w a D hn hg ht hd) ?_)
  rintro e a' w' ⟨E', ax, T', H', q, r, ex, g, t, d⟩
  cases r with
  | normal => exact ⟨E', _, T', H', q, .normal, ex, g, t, d⟩
  | exit i =>
    by_cases hi : i = id
    · simp only [Exit.inBlock, hi, if_true]
      simp only [AExit.inBlock, hi, if_true] at q
      exact ⟨E', _, T', H', q, .normal, ex, g, t, d⟩
    · simp only [Exit.inBlock, hi, if_false]
      simp only [AExit.inBlock, hi, if_false] at q
      exact ⟨E', _, T', H', q, .exit i, ex, g, t, d⟩
  | goto l => exact ⟨E', _, T', H', q, .goto l, ex, g, t, d⟩
  | ret => exact ⟨E', _, T', H', q, .ret, ex, g, t, d⟩
  | panic x v hv => exact ⟨E', _, T', H', q, .panic x v hv, ex, g, t, d⟩
end

def CodeOkR (P : Program) (c : Code) (T : List AV) (H : AHeap) (x : AExit) (T' : List AV) (H' : AHeap) (Wr : List Nat) : Prop :=
  (∀ (r n0 : Nat) (W : Nat → Prop), n0 ≤ H.length → (∀ l ∈ Wr, l < n0 → W l) → wpAR P r n0 W c (fun y T2 H2 => y = x ∧ T2 = T' ∧ H2 = H') T H) ∧ Keeps H H' Wr

theorem CodeOkR.then {P : Program} {c : Code} {T T' : List AV} {H H' : AHeap} {r n0 : Nat} {W : Nat → Prop} {Q : AExit → List AV → AHeap → Prop} {x : AExit} {W1 : List Nat} (h : CodeOkR P c T H x T' H' W1) (hn : n0 ≤ H.length) (hw : ∀ l ∈ W1, l < n0 → W l) (k : Q x T' H') : wpAR P r n0 W c Q T H :=
  wpAR_mono (h.1 r n0 W hn hw) (fun y T2 H2 ⟨h1, h2, h3⟩ => by subst h1 h2 h3; exact k)

/-- Code that a round may have: no loops, no jumps by name. -/
def plainR : Code → Bool
  | .skip => true
  | .exit _ => true
  | .ret => true
  | .seq a b => plainR a && plainR b
  | .block _ c => plainR c
  | .cond _ a b => plainR a && plainR b
  | .region _ ops _ => noDefer ops
  | _ => false

theorem evCTb_okR {P : Program} {call : CallT} (hm : P.follows .mixedOrders = true) (hc : CallTOk P call) {sco : Code → List AV → AHeap → Tree OutE} (n : Nat) : ∀ (c : Code), plainR c = true → ∀ (T : List AV) (H : AHeap) (x : AExit) (T' : List AV) (H' : AHeap) (Wr : List Nat), (evCTb P call noLoop sco n c T H).sel = some (x, T', H', Wr) → CodeOkR P c T H x T' H' Wr
  | .skip, _, T, H, x, T', H', Wr, h => by cases Tree.sel_leaf h; exact ⟨fun _ _ _ _ _ => wpAR_skip ⟨rfl, rfl, rfl⟩, .refl _ _⟩
  | .exit _, _, T, H, x, T', H', Wr, h => by cases Tree.sel_leaf h; exact ⟨fun _ _ _ _ _ => wpAR_exit ⟨rfl, rfl, rfl⟩, .refl _ _⟩
  | .ret, _, T, H, x, T', H', Wr, h => by cases Tree.sel_leaf h; exact ⟨fun _ _ _ _ _ => wpAR_ret ⟨rfl, rfl, rfl⟩, .refl _ _⟩
  | .label _, hp, T, H, x, T', H', Wr, h => by simp [plainR] at hp
  | .goto _, hp, T, H, x, T', H', Wr, h => by simp [plainR] at hp
  | .loop _, hp, T, H, x, T', H', Wr, h => by simp [plainR] at hp
  | .scope _, hp, T, H, x, T', H', Wr, h => by simp [plainR] at hp
  | .refuse _, hp, T, H, x, T', H', Wr, h => by simp [plainR] at hp
  | .rangeFunc _ _ _ _, hp, T, H, x, T', H', Wr, h => by simp [plainR] at hp
  | .seq a b, hp, T, H, x, T', H', Wr, h => by
    simp only [plainR, Bool.and_eq_true] at hp
    unfold evCTb at h
    obtain ⟨⟨y, T1, H1, W1⟩, h1, h⟩ := sel_bind_some h
    have ok1 := evCTb_okR hm hc n a hp.1 _ _ _ _ _ _ h1
    have other : y ≠ .normal → (x, T', H', Wr) = (y, T1, H1, W1) → CodeOkR P (.seq a b) T H x T' H' Wr := by
      intro hne e
      cases e
      refine ⟨fun r n0 W hn hw => wpAR_seq (ok1.then hn hw ?_), ok1.2⟩
      cases x with
      | normal => exact absurd rfl hne
      | exit i => exact ⟨rfl, rfl, rfl⟩
      | goto i => exact ⟨rfl, rfl, rfl⟩
      | ret => exact ⟨rfl, rfl, rfl⟩
      | panic y => exact ⟨rfl, rfl, rfl⟩
    cases y with
    | normal =>
      obtain ⟨⟨z, T2, H2, W2⟩, h2, h⟩ := sel_bind_some h
      cases Tree.sel_leaf h
      have ok2 := evCTb_okR hm hc n b hp.2 _ _ _ _ _ _ h2
      exact ⟨fun r n0 W hn hw => wpAR_seq (ok1.then hn (fun l hl => hw l (List.mem_append_left _ hl)) (ok2.1 r n0 W (Nat.le_trans hn ok1.2.1) (fun l hl => hw l (List.mem_append_right _ hl)))), ok1.2.trans ok2.2⟩
    | exit i => exact other (by simp) (Tree.sel_leaf h)
    | goto i => exact other (by simp) (Tree.sel_leaf h)
    | ret => exact other (by simp) (Tree.sel_leaf h)
    | panic v => exact other (by simp) (Tree.sel_leaf h)
  | .block i c, hp, T, H, x, T', H', Wr, h => by
    simp only [plainR] at hp
    unfold evCTb at h
    obtain ⟨⟨y, T1, H1, W1⟩, h1, h⟩ := sel_bind_some h
    have ok1 := evCTb_okR hm hc n c hp _ _ _ _ _ _ h1
    cases y with
    | exit j =>
      simp only at h
      split at h
      · rename_i hj
        cases Tree.sel_leaf h
        exact ⟨fun r n0 W hn hw => wpAR_block (ok1.then hn hw (by simp [AExit.inBlock, hj])), ok1.2⟩
      · rename_i hj
        cases Tree.sel_leaf h
        exact ⟨fun r n0 W hn hw => wpAR_block (ok1.then hn hw (by simp [AExit.inBlock, hj])), ok1.2⟩
    | normal => cases Tree.sel_leaf h; exact ⟨fun r n0 W hn hw => wpAR_block (ok1.then hn hw ⟨rfl, rfl, rfl⟩), ok1.2⟩
    | goto i => cases Tree.sel_leaf h; exact ⟨fun r n0 W hn hw => wpAR_block (ok1.then hn hw ⟨rfl, rfl, rfl⟩), ok1.2⟩
    | ret => cases Tree.sel_leaf h; exact ⟨fun r n0 W hn hw => wpAR_block (ok1.then hn hw ⟨rfl, rfl, rfl⟩), ok1.2⟩
    | panic v => cases Tree.sel_leaf h; exact ⟨fun r n0 W hn hw => wpAR_block (ok1.then hn hw ⟨rfl, rfl, rfl⟩), ok1.2⟩
  | .cond c a b, hp, T, H, x, T', H', Wr, h => by
    simp only [plainR, Bool.and_eq_true] at hp
    unfold evCTb at h
    have h := askB_sel (fun b d => askC_get) h
    split at h
    · rename_i t ht
      rcases Tree.sel_br h with ⟨rfl, h⟩ | ⟨rfl, h⟩
      · have ok1 := evCTb_okR hm hc n a hp.1 _ _ _ _ _ _ h
        exact ⟨fun r n0 W hn hw => wpAR_cond ht (ok1.1 r n0 W hn hw), ok1.2⟩
      · have ok1 := evCTb_okR hm hc n b hp.2 _ _ _ _ _ _ h
        exact ⟨fun r n0 W hn hw => wpAR_cond ht (ok1.1 r n0 W hn hw), ok1.2⟩
    · exact (Tree.sel_bad h).elim
  | .region id ops false, hp, T, H, x, T', H', Wr, h => by
    simp only [plainR] at hp
    unfold evCTb at h
    obtain ⟨⟨T1, H1, L⟩, h1, h⟩ := sel_bind_some h
    cases Tree.sel_leaf h
    obtain ⟨h2, h3⟩ := evRT_chain hc noSite_ok ops.toList 0 _ T _ _ _ _ (fun j o hj => by simpa using hj) h1
    have e : (List.range ops.toList.length).map (0 + ·) = List.range ops.size := by simp
    rw [e] at h2
    exact ⟨fun r n0 W hn hw => wpAR_chain hp h2 hw ⟨rfl, rfl, rfl⟩, h3⟩
  | .region id ops true, hp, T, H, x, T', H', Wr, h => by
    simp only [plainR] at hp
    unfold evCTb at h
    obtain ⟨⟨T1, H1, L⟩, h1, h⟩ := sel_bind_some h
    split at h
    · rename_i hd
      cases Tree.sel_leaf h
      obtain ⟨h2, h3⟩ := evRT_chain hc noSite_ok ops.toList 0 _ T _ _ _ _ (fun j o hj => by simpa using hj) h1
      have e : (List.range ops.toList.length).map (0 + ·) = List.range ops.size := by simp
      rw [e] at h2
      exact ⟨fun r n0 W hn hw => wpAR_chain_draw hp hm (resv_idle P _) h2 hw hd ⟨rfl, rfl, rfl⟩, h3.unres⟩
    · exact (Tree.sel_bad h).elim

end Go.Proofs.YtiipaliigpkfhaaGreat.Ab
