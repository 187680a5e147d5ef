/- Part 2: operands, one operation, a row of operations in the order of the text, code, calls: what each means abstractly, and how they are put together. -/
import Derived.Test.YtiipaliigpkfhaaGreatA1
import Derived.ScopeJumps
set_option linter.unusedVariables false
namespace Go.Proofs.YtiipaliigpkfhaaGreat.Ab
open Go Go.RowKit

def pureEval {α : Type} (P : Program) : Sem α → Option α
  | .pure a => some a
  | .program k => pureEval P (k P)
  | .mark _ k => pureEval P k
  | _ => none

theorem pureEval_run {α : Type} {P : Program} {s : Sem α} {x : α} : pureEval P s = some x → ∀ w, s.run P w = .ok x w := by
  induction s with
  | pure a => intro h w; simp only [pureEval, Option.some.injEq] at h; subst h; rfl
  | program k ih => intro h w; simp only [pureEval] at h; simp only [Sem.run]; exact ih P h w
  | mark m k ih => intro h w; simp only [pureEval] at h; simp only [Sem.run]; exact ih h w
  | _ => intro h w; simp [pureEval] at h

/-! ### Values -/
def AV.cells : AV → List AV
  | .agg cs => cs
  | x => [x]

mutual
def constA : Value → AV
  | .slice none 0 0 => .rsl true 0 0 (fun _ => []) .tight
  | .agg us => .agg (constAs us.toList)
  | v => if plain v then .sc v else .any
def constAs : List Value → List AV
  | [] => []
  | v :: r => constA v :: constAs r
end

theorem constAs_get (us : List Value) : ∀ (j : Nat), (constAs us)[j]? = us[j]?.map constA := by
  induction us with
  | nil => intro j; simp [constAs]
  | cons v r ih =>
    intro j
    cases j with
    | zero => simp [constAs]
    | succ j => simp [constAs, ih j]

theorem constAs_length (us : List Value) : (constAs us).length = us.length := by
  induction us with
  | nil => rfl
  | cons v r ih => simp [constAs, ih]

theorem rel_plain {E : Env} {v : Value} : Rel E (if plain v then .sc v else .any) v := by
  by_cases h : plain v = true
  · rw [if_pos h]; exact .sc v h
  · rw [if_neg h]; exact .any v

theorem constA_rel (E : Env) : ∀ (n : Nat) (v : Value), SizeOf.sizeOf v < n → Rel E (constA v) v
  | 0, v, h => absurd h (Nat.not_lt_zero _)
  | n + 1, v, h => by
    unfold constA
    split
    · exact .rnil 0 _ _ (.inr rfl)
    · rename_i us
      refine .agg _ us (by simp [constAs_length]) (fun j x hj => ?_)
      rw [constAs_get] at hj
      cases hu : us.toList[j]? with
      | none => rw [hu] at hj; cases hj
      | some u =>
        rw [hu] at hj
        simp only [Option.map_some, Option.some.injEq] at hj
        subst hj
        have hj' : us[j]? = some u := by simpa using hu
        have e : us.getD j undef = u := by simp [Array.getD_eq_getD_getElem?, hj']
        rw [e]
        refine constA_rel E n u ?_
        have hm : u ∈ us := Array.mem_of_getElem? hj'
        have := Array.sizeOf_lt_of_mem hm
        simp at h
        omega
    · exact rel_plain

def opdA (T : List AV) : Operand → AV
  | .tmp t => T.getD t .any
  | .const v => constA v
  | .global _ => .any
  | .func f => .fn (.func f) [] []

theorem opd_rel {E : Env} {T : List AV} {a : Act} (h : RelT E T a.tmps) (x : Operand) : Rel E (opdA T x) (a.eval x) := by
  cases x with
  | tmp t =>
    simp only [opdA, Act.eval]
    cases ht : T[t]? with
    | none => rw [List.getD_eq_getElem?_getD, ht]; exact .any _
    | some y => rw [List.getD_eq_getElem?_getD, ht]; exact h.2 t y ht
  | const v => exact constA_rel E _ v (Nat.lt_succ_self _)
  | global g => exact .any _
  | func f => exact .fn _ _ _ _ _ rfl rfl (fun j x hj => by simp at hj) (fun j x hj => by simp at hj)

/-- A slot is written. -/
def putA (T : List AV) (d : Option Tmp) (x : AV) : List AV :=
  match d with
  | some d => T.set d x
  | none => T

theorem put_rel {E : Env} {T : List AV} {a : Act} (h : RelT E T a.tmps) (d : Option Tmp) {x : AV} {v : Value} (hx : Rel E x v) : RelT E (putA T d x) (a.put d v).tmps := by
  cases d with
  | none => exact h
  | some d =>
    refine ⟨by simp [putA, Act.put, h.1], fun i y hy => ?_⟩
    simp only [putA, Act.put] at *
    by_cases hid : d = i
    · subst hid
      rw [List.getElem?_set_self'] at hy
      cases ht : T[d]? with
      | none => rw [ht] at hy; cases hy
      | some z =>
        rw [ht] at hy
        simp only [Functor.map, Option.map_some, Function.const, Option.some.injEq] at hy
        subst hy
        have hlt : d < a.tmps.size := by
          have := (List.getElem?_eq_some_iff.1 ht).1
          rw [h.1]; exact this
        have e : (a.tmps.setIfInBounds d v).getD d undef = v := by simp [Array.getD_eq_getD_getElem?, hlt]
        rw [e]; exact hx
    · rw [List.getElem?_set_ne hid] at hy
      have e : (a.tmps.setIfInBounds d v).getD i undef = a.tmps.getD i undef := by
        simp [Array.getD_eq_getD_getElem?, Array.getElem?_setIfInBounds_ne hid]
      rw [e]
      exact h.2 i y hy

theorem put_defers' (a : Act) (d : Option Tmp) (v : Value) : (a.put d v).defers = a.defers := by cases d <;> rfl

/-! ### One operation -/
/-- Its operands, told. -/
def RelO (E : Env) (T : List AV) (o : Oper) (ρ : Operand → Value) : Prop := ∀ x, x ∈ o.op.operands → Rel E (opdA T x) (ρ x)

theorem RelT.o {E : Env} {T : List AV} {a : Act} (h : RelT E T a.tmps) (o : Oper) : RelO E T o a.eval := fun x _ => opd_rel h x

/-- What an operation leaves. -/
def OpR (P : Program) (o : Oper) (ρ : Operand → Value) (w : World) (K : Value → World → Prop) : Prop :=
  match (execOp ρ o).run P w with
  | .ok (.value v) w' => K v w'
  | .ok .skip w' => K undef w'
  | .ok (.enter f args) w' => Calls P f args w' fun
      | .returned v, w'' => K v w''
      | _, _ => False
  | _ => False

theorem OpR.wp {P : Program} {o : Oper} {a : Act} {w : World} {K : Value → World → Prop} {next : Act → World → Prop} {Q : Exit → Act → World → Prop} (h : OpR P o a.eval w K) (hk : ∀ v w', K v w' → next (a.put o.dst v) w') : o.wp P a w next Q := by
  unfold OpR at h
  unfold Oper.wp
  split at h
  · rename_i v w' hr; rw [hr]; exact hk _ _ h
  · rename_i w' hr; rw [hr]; exact hk _ _ h
  · rename_i f args w' hr
    rw [hr, Oper.upon_enter]
    refine h.mono ?_
    intro e w'' he
    cases e with
    | returned v => exact hk _ _ he
    | panicked c => exact he.elim
    | outgrown => exact he.elim
  · exact h.elim

theorem OpR.congr {P : Program} {o : Oper} {ρ ρ' : Operand → Value} {w : World} {K : Value → World → Prop} (h : OpR P o ρ w K) (hs : ∀ cs b, o.op ≠ .select cs b) (he : ∀ x ∈ o.op.operands, ρ' x = ρ x) : OpR P o ρ' w K := by
  unfold OpR at *
  rw [execOp_congr o hs he]
  exact h

def OpA (P : Program) (o : Oper) (T : List AV) (H : AHeap) (x : AV) (H' : AHeap) (Wr : List Nat) : Prop :=
  ∀ (E : Env) (w0 w : World) (ρ : Operand → Value), Good E H w0 w → RelO E T o ρ →
    OpR P o ρ w fun v w' => ∃ E', Ext H.length (· ∈ Wr) E H w E' H' w' ∧ Good E' H' w0 w' ∧ Rel E' x v

/-- Is an operation wanted? -/
def yieldedA (ops : Array Oper) (T : List AV) (j : Nat) : Option (Option Bool) :=
  match ((ops[j]?).bind (·.dst)).bind (T[·]?) with
  | some (.sc (.bool b)) => some (some b)
  | some (.tup _) => some none
  | _ => none

/-- What an operation leaves that was not wanted. -/
def skipA : AV := .tup []
theorem skip_rel (E : Env) : Rel E skipA undef := .tup [] #[] rfl (fun j x hj => by simp at hj)

def wantedA (ops : Array Oper) (T : List AV) (o : Oper) : Option Bool :=
  match o.guard with
  | none => some true
  | some (j, want) => (yieldedA ops T j).map (· == some want)

theorem yielded_eq {E : Env} {T : List AV} {a : Act} {ops : Array Oper} (h : RelT E T a.tmps) {j : Nat} {b : Option Bool} (hy : yieldedA ops T j = some b) : yielded ops a.tmps j = b := by
  unfold yieldedA at hy
  unfold yielded
  cases hd : (ops[j]?).bind (·.dst) with
  | none => rw [hd] at hy; simp at hy
  | some d =>
    rw [hd] at hy
    simp only [Option.bind_some] at hy ⊢
    cases ht : T[d]? with
    | none => rw [ht] at hy; simp at hy
    | some x =>
      rw [ht] at hy
      have hlt : d < a.tmps.size := by rw [h.1]; exact (List.getElem?_eq_some_iff.1 ht).1
      have hr := h.2 d x ht
      have e : a.tmps[d]? = some (a.tmps.getD d undef) := by simp [Array.getD_eq_getD_getElem?, hlt]
      rw [e]
      generalize a.tmps.getD d undef = v at hr
      cases hr with
      | sc v hp => cases v <;> simp at hy ⊢; exact hy
      | tup cs us h k => simp at hy; exact hy
      | _ => simp at hy

theorem wanted_eq {E : Env} {T : List AV} {a : Act} {ops : Array Oper} (h : RelT E T a.tmps) {o : Oper} {b : Bool} (hw : wantedA ops T o = some b) : Region.wanted o (yielded ops a.tmps) = b := by
  unfold wantedA at hw
  unfold Region.wanted
  cases hg : o.guard with
  | none => rw [hg] at hw; simp at hw; simp [hw]
  | some g =>
    obtain ⟨j, want⟩ := g
    rw [hg] at hw
    simp only [Option.map_eq_some_iff] at hw
    obtain ⟨y, hy, rfl⟩ := hw
    simp only [yielded_eq h hy]
    try rfl

/-- Operations one behind the other. -/
inductive RunA (P : Program) (ops : Array Oper) : List Nat → List AV → AHeap → List AV → AHeap → List Nat → Prop where
  | nil (T : List AV) (H : AHeap) : RunA P ops [] T H T H []
  | skip {i : Nat} {rest : List Nat} {o : Oper} {T T' : List AV} {H H' : AHeap} {W : List Nat} (ho : ops[i]? = some o) (hw : wantedA ops T o = some false)
      (hr : RunA P ops rest (putA T o.dst skipA) H T' H' W) : RunA P ops (i :: rest) T H T' H' W
  | step {i : Nat} {rest : List Nat} {o : Oper} {x : AV} {T T' : List AV} {H H1 H' : AHeap} {W1 W : List Nat} (ho : ops[i]? = some o) (hw : wantedA ops T o = some true)
      (hs : OpA P o T H x H1 W1) (hr : RunA P ops rest (putA T o.dst x) H1 T' H' W) : RunA P ops (i :: rest) T H T' H' (W1 ++ W)

theorem RunA.len {P : Program} {ops : Array Oper} {is : List Nat} {T T' : List AV} {H H' : AHeap} {W : List Nat} (h : RunA P ops is T H T' H' W) : T'.length = T.length := by
  induction h with
  | nil => rfl
  | @skip i rest o T T' H H' W ho hw hr ih => rw [ih]; cases o.dst <;> simp [putA]
  | @step i rest o x T T' H H1 H' W1 W ho hw hs hr ih => rw [ih]; cases o.dst <;> simp [putA]

theorem RunA.sound {P : Program} {ops : Array Oper} {Q : Exit → Act → World → Prop} {is : List Nat} {T T' : List AV} {H H' : AHeap} {W : List Nat} (h : RunA P ops is T H T' H' W) :
    ∀ {n0 : Nat} {E : Env} {w0 w : World} {a : Act}, n0 ≤ H.length → Good E H w0 w → RelT E T a.tmps →
      (∀ (E' : Env) (a' : Act) (w' : World), Ext n0 (· ∈ W) E H w E' H' w' → Good E' H' w0 w' → RelT E' T' a'.tmps → a'.defers = a.defers → Q .normal a' w') →
      wpOps P ops Q is a w := by
  induction h with
  | nil T H =>
    intro n0 E w0 w a hn hg ht hk
    exact hk E a w (.refl _ _ _ _ _) hg ht rfl
  | @skip i rest o T T' H H' W ho hw hr ih =>
    intro n0 E w0 w a hn hg ht hk
    simp only [wpOps, ho, wanted_eq ht hw, if_false, Bool.false_eq_true]
    refine ih hn hg (put_rel ht o.dst (skip_rel _)) (fun E' a' w' he hg' ht' hd => ?_)
    exact hk E' a' w' he hg' ht' (hd.trans (put_defers' _ _ _))
  | @step i rest o x T T' H H1 H' W1 W ho hw hs hr ih =>
    intro n0 E w0 w a hn hg ht hk
    simp only [wpOps, ho, wanted_eq ht hw, if_true]
    refine .inl ((hs E w0 w a.eval hg (ht.o o)).wp ?_)
    rintro v w' ⟨E', he, hg', hv⟩
    refine ih (Nat.le_trans hn he.len) hg' (put_rel (ht.mono he.le) o.dst hv) (fun E2 a2 w2 he2 hg2 ht2 hd => ?_)
    refine hk E2 a2 w2 ?_ hg2 ht2 (hd.trans (put_defers' _ _ _))
    exact (he.weaken hn (fun l _ hl => List.mem_append_left _ hl)).trans (he2.weaken (Nat.le_refl _) (fun l _ hl => List.mem_append_right _ hl))

/-! ### Code -/
inductive AExit where
  | normal
  | exit (id : Nat)
  | goto (l : Nat)
  | ret
  | panic (x : AV)

inductive RelX (E : Env) : AExit → Exit → Prop where
  | normal : RelX E .normal .normal
  | exit (id : Nat) : RelX E (.exit id) (.exit id)
  | goto (l : Nat) : RelX E (.goto l) (.goto l)
  | ret : RelX E .ret .ret
  | panic (x : AV) (v : Value) (h : Rel E x v) : RelX E (.panic x) (.panic [{ v, recovered := false }])

/-- What a piece of code leaves. -/
def PostA (n0 : Nat) (W : Nat → Prop) (Q : AExit → List AV → AHeap → Prop) (E : Env) (H : AHeap) (w0 w : World) (D : List Deferred) : Exit → Act → World → Prop :=
  fun e a' w' => ∃ E' x T' H', Q x T' H' ∧ RelX E' x e ∧ Ext n0 W E H w E' H' w' ∧ Good E' H' w0 w' ∧ RelT E' T' a'.tmps ∧ a'.defers = D

def wpA (P : Program) (n0 : Nat) (W : Nat → Prop) (c : Code) (Q : AExit → List AV → AHeap → Prop) (T : List AV) (H : AHeap) : Prop :=
  ∀ (E : Env) (w0 w : World) (a : Act) (D : List Deferred), n0 ≤ H.length → Good E H w0 w → RelT E T a.tmps → a.defers = D → c.wp P (PostA n0 W Q E H w0 w D) a w

section
variable {P : Program} {n0 : Nat} {W : Nat → Prop} {Q : AExit → List AV → AHeap → Prop} {T : List AV} {H : AHeap}

theorem wpA_mono {c : Code} {Q' : AExit → List AV → AHeap → Prop} (h : wpA P n0 W c Q T H) (hq : ∀ x T H, Q x T H → Q' x T H) : wpA P n0 W c Q' T H :=
  fun E w0 w a D hn hg ht hd => wp_mono (h E w0 w a D hn hg ht hd) (fun _ _ _ ⟨E', x, T', H', q, r⟩ => ⟨E', x, T', H', hq _ _ _ q, r⟩)

theorem wpA_skip (h : Q .normal T H) : wpA P n0 W .skip Q T H :=
  fun E w0 w a D hn hg ht hd => wp_skip ⟨E, _, T, H, h, .normal, .refl _ _ _ _ _, hg, ht, hd⟩
theorem wpA_label {l : Nat} (h : Q .normal T H) : wpA P n0 W (.label l) Q T H :=
  fun E w0 w a D hn hg ht hd => wp_label ⟨E, _, T, H, h, .normal, .refl _ _ _ _ _, hg, ht, hd⟩
theorem wpA_exit {id : Nat} (h : Q (.exit id) T H) : wpA P n0 W (.exit id) Q T H :=
  fun E w0 w a D hn hg ht hd => wp_exit ⟨E, _, T, H, h, .exit id, .refl _ _ _ _ _, hg, ht, hd⟩
theorem wpA_goto {l : Nat} (h : Q (.goto l) T H) : wpA P n0 W (.goto l) Q T H :=
  fun E w0 w a D hn hg ht hd => wp_goto ⟨E, _, T, H, h, .goto l, .refl _ _ _ _ _, hg, ht, hd⟩
theorem wpA_ret (h : Q .ret T H) : wpA P n0 W .ret Q T H :=
  fun E w0 w a D hn hg ht hd => wp_ret ⟨E, _, T, H, h, .ret, .refl _ _ _ _ _, hg, ht, hd⟩

theorem wpA_region {id : Nat} {ops : Array Oper} {T' : List AV} {H' : AHeap} {Wr : List Nat} (hr : RunA P ops (List.range ops.size) T H T' H' Wr) (hW : ∀ l, l ∈ Wr → l < n0 → W l) (h : Q .normal T' H') :
    wpA P n0 W (.region id ops false) Q T H :=
  fun E w0 w a D hn hg ht hd => wp_region (hr.sound hn hg ht (fun E' a' w' he hg' ht' hd' =>
    ⟨E', _, T', H', h, .normal, he.weaken (Nat.le_refl _) (fun l hl hm => hW l hm hl), hg', ht', hd'.trans hd⟩))


def AExit.then (K : List AV → AHeap → Prop) (Q : AExit → List AV → AHeap → Prop) : AExit → List AV → AHeap → Prop
  | .normal, T, H => K T H
  | x, T, H => Q x T H

def AExit.inBlock (id : Nat) (Q : AExit → List AV → AHeap → Prop) : AExit → List AV → AHeap → Prop
  | .exit i, T, H => if i = id then Q .normal T H else Q (.exit i) T H
  | x, T, H => Q x T H

/-- What one piece leaves, the next goes on from. -/
theorem PostA.chain {E E' : Env} {H' : AHeap} {w0 w w' : World} (hx : Ext n0 W E H w E' H' w') {e : Exit} {a : Act} {w'' : World} {D : List Deferred} (h : PostA n0 W Q E' H' w0 w' D e a w'') : PostA n0 W Q E H w0 w D e a w'' := by
  obtain ⟨E2, x, T2, H2, q, r, ex, g, t, d⟩ := h
  exact ⟨E2, x, T2, H2, q, r, hx.trans ex, g, t, d⟩

theorem wpA_seq {x y : Code} (h : wpA P n0 W x (AExit.then (fun T H => wpA P n0 W y Q T H) Q) T H) : wpA P n0 W (.seq x y) Q T H := by
  intro E w0 w a D hn hg ht hd
  refine wp_seq (wp_mono (h E w0 w a D hn hg ht hd) ?_)
  rintro e a' w' ⟨E', ax, T', H', q, r, ex, g, t, d⟩
  cases r with
  | normal => exact wp_mono (q E' w0 w' a' D (Nat.le_trans hn ex.len) g t d) (fun e a w hp => hp.chain ex)
  | exit id => exact ⟨E', _, T', H', q, .exit id, ex, g, t, d⟩
  | goto l => exact ⟨E', _, T', H', q, .goto l, ex, g, t, d⟩
  | ret => exact ⟨E', _, T', H', q, .ret, ex, g, t, d⟩
  | panic x v hv => exact ⟨E', _, T', H', q, .panic x v hv, ex, g, t, d⟩

theorem wpA_cond {c : Operand} {x y : Code} {b : Bool} (hc : opdA T c = .sc (.bool b)) (h : wpA P n0 W (if b then x else y) Q T H) : wpA P n0 W (.cond c x y) Q T H := by
  intro E w0 w a D hn hg ht hd
  have hr := opd_rel ht c
  rw [hc] at hr
  generalize hv : a.eval c = v at hr
  cases hr with
  | sc v hp => exact wp_cond hv (h E w0 w a D hn hg ht hd)

theorem wpA_block {id : Nat} {c : Code} (h : wpA P n0 W c (AExit.inBlock id Q) T H) : wpA P n0 W (.block id c) Q T H := by
  intro E w0 w a D hn hg ht hd
  refine wp_block (wp_mono (h E w0 w a D hn hg ht hd) ?_)
  rintro e a' w' ⟨E', ax, T', H', q, r, ex, g, t, d⟩
  cases r with
  | normal => exact ⟨E', _, T', H', q, .normal, ex, g, t, d⟩
  | exit i =>
    by_cases hi : i = id
    · simp only [Exit.inBlock, hi, if_true]
      simp only [AExit.inBlock, hi, if_true] at q
      exact ⟨E', _, T', H', q, .normal, ex, g, t, d⟩
    · simp only [Exit.inBlock, hi, if_false]
      simp only [AExit.inBlock, hi, if_false] at q
      exact ⟨E', _, T', H', q, .exit i, ex, g, t, d⟩
  | goto l => exact ⟨E', _, T', H', q, .goto l, ex, g, t, d⟩
  | ret => exact ⟨E', _, T', H', q, .ret, ex, g, t, d⟩
  | panic x v hv => exact ⟨E', _, T', H', q, .panic x v hv, ex, g, t, d⟩

/-- A loop by an invariant and a measure. -/
theorem wpA_loop {c : Code} (I : Nat → List AV → AHeap → Prop) (m : Nat) (h0 : I m T H)
    (round : ∀ m T H, I m T H → wpA P n0 W c (AExit.then (fun T' H' => ∃ m', m' < m ∧ I m' T' H') Q) T H) : wpA P n0 W (.loop c) Q T H := by
  intro E w0 w a D hn hg ht hd b k cs
  have key : ∀ (m : Nat) (T : List AV) (H' : AHeap) (E' : Env) (w' : World) (a : Act), I m T H' → Ext n0 W E H w E' H' w' → Good E' H' w0 w' → RelT E' T a.tmps → a.defers = D →
      ∃ e a' w'', PostA n0 W Q E H w0 w D e a' w'' ∧ Arrives P (lone (b.at a (.code c :: .inLoop c :: k)) cs w') b k cs e a' w'' := by
    intro m
    induction m using Nat.strongRecOn with
    | _ m ih =>
      intro T H' E' w' a hi ex hg ht hd
      obtain ⟨e, a1, w1, hp, harr⟩ := round m T H' hi E' w0 w' a D (Nat.le_trans hn ex.len) hg ht hd b (.inLoop c :: k) cs
      obtain ⟨E2, ax, T2, H2, q, r, ex2, g2, t2, d2⟩ := hp
      cases r with
      | normal =>
        obtain ⟨m', hm, hi'⟩ := q
        obtain ⟨e3, a3, w3, hp3, harr3⟩ := ih m' hm T2 H2 E2 w1 a1 hi' (ex.trans ex2) g2 t2 d2
        refine ⟨e3, a3, w3, hp3, .of_steps (Steps.trans harr (.one step_inLoop)) harr3⟩
      | exit i => exact ⟨_, a1, w1, ⟨E2, _, T2, H2, q, .exit i, ex.trans ex2, g2, t2, d2⟩, .pass (x := .inLoop c) rfl (fun _ _ => .inl (by simp)) harr⟩
      | goto l => exact ⟨_, a1, w1, ⟨E2, _, T2, H2, q, .goto l, ex.trans ex2, g2, t2, d2⟩, .pass (x := .inLoop c) rfl (fun _ _ => .inl (by simp)) harr⟩
      | ret => exact ⟨_, a1, w1, ⟨E2, _, T2, H2, q, .ret, ex.trans ex2, g2, t2, d2⟩, .pass (x := .inLoop c) rfl (fun _ _ => .inl (by simp)) harr⟩
      | panic x v hv => exact ⟨_, a1, w1, ⟨E2, _, T2, H2, q, .panic x v hv, ex.trans ex2, g2, t2, d2⟩, .pass (x := .inLoop c) rfl (fun _ _ => .inl (by simp)) harr⟩
  obtain ⟨e, a', w', hp, harr⟩ := key m T H E w a h0 (.refl _ _ _ _ _) hg ht hd
  exact ⟨e, a', w', hp, .of_steps (.one step_loop) harr⟩

/-- Within a scope: by a jump, on from a label. -/
def AExit.jump (c : Code) (K : Code → List AV → AHeap → Prop) (Q : AExit → List AV → AHeap → Prop) : AExit → List AV → AHeap → Prop
  | .goto l, T, H => ∃ rest, findLabel c l = some rest ∧ K rest T H
  | x, T, H => Q x T H

/-- A scope by an invariant and a measure. -/
theorem wpA_scope {c : Code} (I : Nat → Code → List AV → AHeap → Prop) (m : Nat) (h0 : I m c T H)
    (round : ∀ m d T H, I m d T H → wpA P n0 W d (AExit.jump c (fun rest T' H' => ∃ m', m' < m ∧ I m' rest T' H') Q) T H) : wpA P n0 W (.scope c) Q T H := by
  intro E w0 w a D hn hg ht hd b k cs
  have key : ∀ (m : Nat) (d : Code) (T : List AV) (H' : AHeap) (E' : Env) (w' : World) (a : Act), I m d T H' → Ext n0 W E H w E' H' w' → Good E' H' w0 w' → RelT E' T a.tmps → a.defers = D →
      ∃ e a' w'', PostA n0 W Q E H w0 w D e a' w'' ∧ Arrives P (lone (b.at a (.code d :: .inScope c :: k)) cs w') b k cs e a' w'' := by
    intro m
    induction m using Nat.strongRecOn with
    | _ m ih =>
      intro d T H' E' w' a hi ex hg ht hd
      obtain ⟨e, a1, w1, hp, harr⟩ := round m d T H' hi E' w0 w' a D (Nat.le_trans hn ex.len) hg ht hd b (.inScope c :: k) cs
      obtain ⟨E2, ax, T2, H2, q, r, ex2, g2, t2, d2⟩ := hp
      cases r with
      | normal => exact ⟨.normal, a1, w1, ⟨E2, _, T2, H2, q, .normal, ex.trans ex2, g2, t2, d2⟩, Steps.trans harr (.one step_inScope)⟩
      | exit i => exact ⟨.exit i, a1, w1, ⟨E2, _, T2, H2, q, .exit i, ex.trans ex2, g2, t2, d2⟩, fun k' hk => harr k' (by simp [exitTo, hk])⟩
      | goto l =>
        obtain ⟨rest, hf, m', hm, hi'⟩ := q
        obtain ⟨e3, a3, w3, hp3, harr3⟩ := ih m' hm rest T2 H2 E2 w1 a1 hi' (ex.trans ex2) g2 t2 d2
        exact ⟨e3, a3, w3, hp3, .of_steps (harr _ (by simp [gotoIn, hf])) harr3⟩
      | ret => exact ⟨_, a1, w1, ⟨E2, _, T2, H2, q, .ret, ex.trans ex2, g2, t2, d2⟩, harr⟩
      | panic x v hv => exact ⟨_, a1, w1, ⟨E2, _, T2, H2, q, .panic x v hv, ex.trans ex2, g2, t2, d2⟩, harr⟩
  obtain ⟨e, a', w', hp, harr⟩ := key m c T H E w a h0 (.refl _ _ _ _ _) hg ht hd
  exact ⟨e, a', w', hp, .of_steps (.one step_scope) harr⟩

end
end Go.Proofs.YtiipaliigpkfhaaGreat.Ab
