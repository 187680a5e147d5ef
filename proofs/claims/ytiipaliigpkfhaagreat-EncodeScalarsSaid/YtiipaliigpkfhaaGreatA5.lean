/- Part 5: operations that write nothing. -/
import Derived.Test.YtiipaliigpkfhaaGreatA4
set_option linter.unusedVariables false
set_option linter.unusedSimpArgs false
namespace Go.Proofs.YtiipaliigpkfhaaGreat.Ab
open Go Go.RowKit

section
variable {P : Program} {o : Oper} {T : List AV} {H : AHeap}

theorem opA_run {x : AV} {H' : AHeap} {Wr : List Nat}
    (h : ∀ (E : Env) (w0 w : World) (ρ : Operand → Value), Good E H w0 w → RelO E T o ρ → ∃ E' v w', (execOp ρ o).run P w = .ok (.value v) w' ∧ Ext H.length (· ∈ Wr) E H w E' H' w' ∧ Good E' H' w0 w' ∧ Rel E' x v) : OpA P o T H x H' Wr := by
  intro E w0 w ρ hg ht
  obtain ⟨E', v, w', hr, he, hg', hx⟩ := h E w0 w ρ hg ht
  unfold OpR
  rw [hr]
  exact ⟨E', he, hg', hx⟩

theorem opA_skip {H' : AHeap} {Wr : List Nat}
    (h : ∀ (E : Env) (w0 w : World) (ρ : Operand → Value), Good E H w0 w → RelO E T o ρ → ∃ E' w', (execOp ρ o).run P w = .ok .skip w' ∧ Ext H.length (· ∈ Wr) E H w E' H' w' ∧ Good E' H' w0 w') : OpA P o T H .any H' Wr := by
  intro E w0 w ρ hg ht
  obtain ⟨E', w', hr, he, hg'⟩ := h E w0 w ρ hg ht
  unfold OpR
  rw [hr]
  exact ⟨E', he, hg', .any _⟩

/-- The world stays as it is. -/
def OpS (P : Program) (o : Oper) (T : List AV) (H : AHeap) (x : AV) : Prop :=
  ∀ (E : Env) (w0 w : World) (ρ : Operand → Value), Good E H w0 w → RelO E T o ρ → ∃ v, (execOp ρ o).run P w = .ok (.value v) w ∧ Rel E x v

theorem OpS.a {x : AV} (h : OpS P o T H x) : OpA P o T H x H [] :=
  opA_run fun E w0 w ρ hg ht => let ⟨v, hr, hx⟩ := h E w0 w ρ hg ht; ⟨E, v, w, hr, .refl _ _ _ _ _, hg, hx⟩

theorem opS_intro {x : AV} (h : ∀ (E : Env) (w0 w : World) (ρ : Operand → Value), Good E H w0 w → RelO E T o ρ → ∃ v, (execOp ρ o).run P w = .ok (.value v) w ∧ Rel E x v) : OpS P o T H x := h

theorem opS_move {x : Operand} (ho : o.op = .move x ∨ o.op = .assign x) : OpS P o T H (opdA T x) :=
  opS_intro fun E w0 w ρ hg ht => ⟨ρ x, by rcases ho with ho | ho <;> simp [execOp, ho, Sem.run], ht x (by rcases ho with ho | ho <;> simp [ho, Op.operands])⟩

theorem opS_pick {c x y : Operand} {b : Bool} (ho : o.op = .pick c x y) (hc : opdA T c = .sc (.bool b)) : OpS P o T H (if b then opdA T x else opdA T y) := by
  refine opS_intro fun E w0 w ρ hg ht => ?_
  have hr := ht c (by simp [ho, Op.operands, Call.operands])
  rw [hc] at hr
  generalize hv : ρ c = v at hr
  cases hr with
  | sc v hp =>
    refine ⟨if b then ρ x else ρ y, by simp [execOp, ho, hv, asBool, Sem.run], ?_⟩
    cases b
    · exact ht y (by simp [ho, Op.operands, Call.operands])
    · exact ht x (by simp [ho, Op.operands, Call.operands])

/-- Is it a scalar, and which? -/
def scal : AV → Option Value
  | .sc v => some v
  | _ => none

theorem scal_eq {x : AV} {v : Value} (h : scal x = some v) : x = .sc v := by
  cases x <;> simp [scal] at h
  rw [h]

theorem eval_scal {E : Env} {ρ : Operand → Value} {x : Operand} (hr : Rel E (opdA T x) (ρ x)) {v : Value} (h : scal (opdA T x) = some v) : ρ x = v := by
  rw [scal_eq h] at hr
  cases hr
  rfl

/-- An operation whose operands are all scalars, and which asks nothing of memory: the model's own answer. -/
theorem opS_scalar {v : Value} (hall : ∀ x ∈ o.op.operands, (scal (opdA T x)).isSome = true) (hsel : ∀ cs b, o.op ≠ .select cs b)
    (h : pureEval P (execOp (fun x => (scal (opdA T x)).getD undef) o) = some (.value v)) (hp : plain v = true) : OpS P o T H (.sc v) := by
  refine opS_intro fun E w0 w ρ hg ht => ⟨v, ?_, .sc v hp⟩
  have e : execOp ρ o = execOp (fun x => (scal (opdA T x)).getD undef) o := by
    refine execOp_congr o hsel (fun x hx => ?_)
    have := hall x hx
    cases hs : scal (opdA T x) with
    | none => rw [hs] at this; cases this
    | some u => simp [eval_scal (ht x hx) hs]
  rw [e]
  exact pureEval_run h w

/-! ### Loads -/
theorem loadCellsFrom_run {w : World} {b off : Nat} : ∀ (n i : Nat) (acc : Array Value) (us : List Value), us.length = n → (∀ j u, us[j]? = some u → w.cell? ⟨b, off + (i + j), none⟩ = some u) →
    (loadCellsFrom ⟨b, off, none⟩ i n acc).run P w = .ok (acc ++ us.toArray) w
  | 0, i, acc, us, hl, h => by
    have : us = [] := List.length_eq_zero_iff.1 hl
    subst this
    simp [loadCellsFrom, Sem.run]
  | n + 1, i, acc, us, hl, h => by
    match us, hl with
    | u :: r, hl =>
      have h0 := h 0 u rfl
      have hadd : (⟨b, off, none⟩ : Addr).add i = ⟨b, off + i, none⟩ := by
        unfold Addr.add; split <;> simp_all
      unfold loadCellsFrom
      have hl0 : (load ((⟨b, off, none⟩ : Addr).add i)).run P w = .ok u w := by
        simp only [load, Sem.run, hadd]
        rw [show off + i = off + (i + 0) from rfl, h0]
      rw [Sem.run_bind, hl0]
      simp only [Result.andThen]
      rw [loadCellsFrom_run n (i + 1) (acc.push u) r (by simpa using hl) (fun j x hj => by
        have := h (j + 1) x (by simpa using hj)
        rw [show off + (i + 1 + j) = off + (i + (j + 1)) by omega]
        exact this)]
      simp

def loadA (P : Program) (t : TypeId) (cs : List AV) : Option AV :=
  match pureEval P (isAgg t), pureEval P (Go.sizeOf t) with
  | some true, some n => if n ≤ cs.length then some (.agg (cs.take n)) else none
  | some false, some _ => cs.head?
  | _, _ => none

/-- The cells at an address stand for a list. -/
def CellsAt (E : Env) (cs : List AV) (w : World) (b off : Nat) : Prop := ∀ (j : Nat) (x : AV), cs[j]? = some x → ∃ u : Value, w.cell? ⟨b, off + j, none⟩ = some u ∧ Rel E x u

theorem loadA_run {E : Env} {w : World} {b off : Nat} {t : TypeId} {cs : List AV} {x : AV} (hc : CellsAt E cs w b off) (h : loadA P t cs = some x) :
    ∃ v, (loadVar t ⟨b, off, none⟩).run P w = .ok v w ∧ Rel E x v := by
  unfold loadA at h
  unfold loadVar
  split at h
  · rename_i n ha hs
    split at h
    · rename_i hn
      simp only [Option.some.injEq] at h
      subst h
      have hex : ∀ (m : Nat) (ds : List AV), m ≤ ds.length → (∀ (j : Nat) (x : AV), j < m → ds[j]? = some x → ∃ u : Value, w.cell? ⟨b, off + j, none⟩ = some u ∧ Rel E x u) → ∃ us : List Value, us.length = m ∧ (∀ j u, us[j]? = some u → w.cell? ⟨b, off + j, none⟩ = some u) ∧ ∀ (j : Nat) (x : AV), j < m → ds[j]? = some x → Rel E x (us.getD j undef) := by
        intro m
        induction m with
        | zero => exact fun ds _ _ => ⟨[], rfl, fun j u hj => by simp at hj, fun j x hj => by omega⟩
        | succ m ih =>
          intro ds hm hd
          obtain ⟨us, h1, h2, h3⟩ := ih ds (by omega) (fun j x hj => hd j x (by omega))
          obtain ⟨u, hu, hr⟩ := hd m ds[m] (by omega) (List.getElem?_eq_getElem (by omega))
          refine ⟨us ++ [u], by simp [h1], fun j v hj => ?_, fun j x hj hx => ?_⟩
          · by_cases hjm : j < m
            · rw [List.getElem?_append_left (by omega)] at hj; exact h2 j v hj
            · have : j = m := by
                have := (List.getElem?_eq_some_iff.1 hj).1
                simp at this; omega
              subst this
              rw [List.getElem?_append_right (by omega)] at hj
              simp [h1] at hj
              subst hj
              exact hu
          · by_cases hjm : j < m
            · have := h3 j x hjm hx
              rw [List.getD_eq_getElem?_getD, List.getElem?_append_left (by omega), ← List.getD_eq_getElem?_getD]
              exact this
            · have : j = m := by omega
              subst this
              rw [List.getD_eq_getElem?_getD, List.getElem?_append_right (by omega)]
              rw [List.getElem?_eq_getElem (by omega)] at hx
              simp only [Option.some.injEq] at hx
              subst hx
              simpa [h1] using hr
      obtain ⟨us, h1, h2, h3⟩ := hex n cs hn (fun j x _ hx => hc j x hx)
      refine ⟨.agg us.toArray, ?_, .agg _ _ (by simp [h1, hn]) (fun j x hj => ?_)⟩
      · rw [Sem.run_bind, pureEval_run ha]
        simp only [Result.andThen, if_true]
        rw [Sem.run_bind, pureEval_run hs]
        simp only [Result.andThen]
        rw [Sem.run_bind]
        unfold loadCells
        rw [loadCellsFrom_run n 0 #[] us h1 (fun j u hj => by rw [Nat.zero_add]; exact h2 j u hj)]
        simp [Result.andThen, Sem.run]
      · rw [List.getElem?_take] at hj
        split at hj
        · rename_i hjn
          simpa using h3 j x hjn hj
        · cases hj
    · cases h
  · rename_i n ha hs
    cases cs with
    | nil => simp at h
    | cons y r =>
      simp only [List.head?_cons, Option.some.injEq] at h
      subst h
      obtain ⟨u, hu, hr⟩ := hc 0 y rfl
      refine ⟨u, ?_, hr⟩
      rw [Sem.run_bind, pureEval_run ha]
      simp only [Result.andThen, Bool.false_eq_true, if_false]
      simp only [load, Sem.run]
      rw [Nat.add_zero] at hu
      rw [hu]
  · cases h

/-- The cells that a pointer points to. -/
def cellsOfA (H : AHeap) : AV → Option (List AV)
  | .ptr l o => match H[l]? with
    | some (.cells cs) => some (cs.drop o)
    | _ => none
  | .rptr cs => some cs
  | _ => none

theorem cellsOfA_at {E : Env} {w0 w : World} (hg : Good E H w0 w) {x : AV} {v : Value} {cs : List AV} (hr : Rel E x v) (h : cellsOfA H x = some cs) :
    ∃ b off, v = .pointer (some ⟨b, off, none⟩) ∧ CellsAt E cs w b off := by
  cases hr with
  | ptr l o b hb =>
    simp only [cellsOfA] at h
    split at h
    · rename_i ds hl
      simp only [Option.some.injEq] at h
      subst h
      obtain ⟨_, _, arr, T, h3, h4⟩ := hg.obj hl b hb
      refine ⟨b, o, rfl, fun j x hj => ?_⟩
      rw [List.getElem?_drop] at hj
      obtain ⟨u, hu, hr⟩ := h4 _ x hj
      exact ⟨u, by rw [cell_at h3]; exact hu, hr⟩
    · cases h
  | rptr ds b off u hs hk =>
    simp only [cellsOfA, Option.some.injEq] at h
    subst h
    exact ⟨b, off, rfl, fun j x hj => ⟨u j, hg.snap (hs j x hj), (hk j x hj).mono E.data_le⟩⟩
  | _ => simp [cellsOfA] at h

theorem opS_load {t : TypeId} {p : Operand} {x : AV} {cs : List AV} (ho : o.op = .load t p) (hp : cellsOfA H (opdA T p) = some cs) (hx : loadA P t cs = some x) : OpS P o T H x := by
  refine opS_intro fun E w0 w ρ hg ht => ?_
  obtain ⟨b, off, hv, hc⟩ := cellsOfA_at hg (ht p (by simp [ho, Op.operands, Call.operands])) hp
  obtain ⟨v, hr, hrel⟩ := loadA_run hc hx
  refine ⟨v, ?_, hrel⟩
  simp only [execOp, ho, Instr.loadAt, hv]
  simp only [Sem.run_bind, Instr.sureAddr, Sem.run_pure, Result.andThen_ok, hr]

/-! ### Addresses -/
theorem add_plain' (b off n : Nat) : (⟨b, off, none⟩ : Addr).add n = ⟨b, off + n, none⟩ := by
  unfold Addr.add; split <;> simp_all

def fieldOff (P : Program) (s : TypeId) (f : Nat) : Option Nat :=
  match pureEval P (underlying s) with
  | some (.struct fields) => match fields[f]? with
    | some fd => match pureEval P (Go.sizeOf fd.type) with
      | some (n + 1) => some fd.offset
      | _ => none
    | none => none
  | _ => none

/-- A pointer moved on by some cells. -/
def moveA (n : Nat) : AV → Option AV
  | .ptr l o => some (.ptr l (o + n))
  | .rptr cs => some (.rptr (cs.drop n))
  | _ => none

theorem moveA_rel {E : Env} {x y : AV} {v : Value} {n : Nat} (hr : Rel E x v) (h : moveA n x = some y) : ∃ b off, v = .pointer (some ⟨b, off, none⟩) ∧ Rel E y (.pointer (some ⟨b, off + n, none⟩)) := by
  cases hr with
  | ptr l o b hb =>
    simp only [moveA, Option.some.injEq] at h
    subst h
    exact ⟨b, o, rfl, .ptr l _ b hb⟩
  | rptr cs b off u hs hk =>
    simp only [moveA, Option.some.injEq] at h
    subst h
    refine ⟨b, off, rfl, .rptr _ b (off + n) (fun j => u (n + j)) (fun j x hj => ?_) (fun j x hj => ?_)⟩
    · rw [List.getElem?_drop] at hj
      rw [Nat.add_assoc]; exact hs _ x hj
    · rw [List.getElem?_drop] at hj
      exact hk _ x hj
  | _ => simp [moveA] at h

theorem opS_fieldAddr {s : TypeId} {p : Operand} {f n : Nat} {x : AV} (ho : o.op = .fieldAddr s p f) (hn : fieldOff P s f = some n) (hx : moveA n (opdA T p) = some x) : OpS P o T H x := by
  refine opS_intro fun E w0 w ρ hg ht => ?_
  obtain ⟨b, off, hv, hr⟩ := moveA_rel (ht p (by simp [ho, Op.operands, Call.operands])) hx
  refine ⟨_, ?_, hr⟩
  unfold fieldOff at hn
  split at hn
  · rename_i fields hf
    split at hn
    · rename_i fd hfd
      split at hn
      · rename_i m hm
        simp only [Option.some.injEq] at hn
        subst hn
        simp only [execOp, ho, Instr.fieldAt, hv, Sem.run_bind, pureEval_run hf, Result.andThen_ok, hfd, Instr.sureAddr, Sem.run_pure, fieldPlace, pureEval_run hm, Nat.add_eq_zero_iff, Nat.succ_ne_self, if_false, add_plain']
        simp [add_plain']
      · cases hn
    · cases hn
  · cases hn

theorem opS_nilCheck {p : Operand} {x : AV} (ho : o.op = .nilCheck p) (hx : opdA T p = x) (hp : (∃ l o, x = .ptr l o) ∨ (∃ cs, x = .rptr cs) ∨ ∃ f a b, x = .fn (.func f) a b) : OpS P o T H x := by
  refine opS_intro fun E w0 w ρ hg ht => ?_
  have hr := ht p (by simp [ho, Op.operands, Call.operands])
  rw [hx] at hr
  generalize hv : ρ p = v at hr
  refine ⟨v, ?_, hr⟩
  rcases hp with ⟨l, o', rfl⟩ | ⟨cs, rfl⟩ | ⟨f, as, bs, rfl⟩ <;> cases hr <;> simp [execOp, ho, hv]

theorem opS_extract {t : Operand} {i : Nat} {xs : List AV} {x : AV} (ho : o.op = .extract t i) (ht' : opdA T t = .tup xs) (hx : xs[i]? = some x) : OpS P o T H x := by
  refine opS_intro fun E w0 w ρ hg ht => ?_
  have hr := ht t (by simp [ho, Op.operands, Call.operands])
  rw [ht'] at hr
  generalize hv : ρ t = v at hr
  cases hr with
  | tup _ us hl k =>
    have hlt : i < us.size := by rw [hl]; exact (List.getElem?_eq_some_iff.1 hx).1
    have hget : us[i]? = some (us.getD i undef) := by simp [Array.getD_eq_getD_getElem?, hlt]
    refine ⟨us.getD i undef, ?_, k i x hx⟩
    simp only [execOp, ho, Instr.extract, hv, Sem.run_bind, hget, Sem.run_pure, Result.andThen_ok]

theorem rel_list {E : Env} {ρ : Operand → Value} (xs : Array Operand) (ht : ∀ y ∈ xs, Rel E (opdA T y) (ρ y)) : (xs.map ρ).size = (xs.toList.map (opdA T)).length ∧ ∀ (j : Nat) (x : AV), (xs.toList.map (opdA T))[j]? = some x → Rel E x ((xs.map ρ).getD j undef) := by
  refine ⟨by simp, fun j x hj => ?_⟩
  rw [List.getElem?_map] at hj
  cases hx : xs.toList[j]? with
  | none => rw [hx] at hj; cases hj
  | some y =>
    rw [hx] at hj
    simp only [Option.map_some, Option.some.injEq] at hj
    subst hj
    have hy : xs[j]? = some y := by simpa using hx
    have e : (xs.map ρ).getD j undef = ρ y := by simp [Array.getD_eq_getD_getElem?, hy]
    rw [e]
    exact ht y (Array.mem_of_getElem? hy)

theorem opS_makeFunc {fn : Fn} {first caps : Array Operand} (ho : o.op = .makeFunc fn first caps) : OpS P o T H (.fn fn (first.toList.map (opdA T)) (caps.toList.map (opdA T))) := by
  refine opS_intro fun E w0 w ρ hg ht => ⟨.func fn (first.map ρ) (caps.map ρ), by simp [execOp, ho, Instr.makeFunc], ?_⟩
  have h1 := rel_list first (fun y hy => ht y (by simp [ho, Op.operands, hy]))
  have h2 := rel_list caps (fun y hy => ht y (by simp [ho, Op.operands, hy]))
  exact .fn fn _ _ _ _ h1.1 h2.1 h1.2 h2.2

theorem opS_makeInterface {t : TypeId} {p : Operand} (ho : o.op = .makeInterface t p) (hu : ∃ d, pureEval P (underlying t) = some d ∧ ∀ ms, d ≠ .interface ms) : OpS P o T H (.ifc t (opdA T p)) := by
  refine opS_intro fun E w0 w ρ hg ht => ⟨.iface t (ρ p), ?_, .ifc _ _ _ (ht p (by simp [ho, Op.operands, Call.operands]))⟩
  obtain ⟨d, hd, hne⟩ := hu
  simp only [execOp, ho, Instr.makeInterface, Sem.run_bind, pureEval_run hd, Result.andThen_ok]
  cases d <;> first | exact absurd rfl (hne _) | rfl

/-! ### Slices -/
theorem opS_indexAddr {t elem : TypeId} {p q : Operand} {nl : Bool} {sz n : Nat} {el : Nat → List AV} {own : Own} {k : IntKind} {i : Int} (ho : o.op = .indexAddr t p q)
    (hu : pureEval P (underlying t) = some (.slice elem)) (hs : pureEval P (Go.sizeOf elem) = some sz) (hp : opdA T p = .rsl nl sz n el own) (hq : opdA T q = .sc (.int k i)) (h0 : 0 ≤ i) (h1 : i < n) :
    OpS P o T H (.rptr (el i.toNat)) := by
  refine opS_intro fun E w0 w ρ hg ht => ?_
  have hr := ht p (by simp [ho, Op.operands, Call.operands])
  rw [hp] at hr
  have hrq := ht q (by simp [ho, Op.operands, Call.operands])
  rw [hq] at hrq
  generalize hv : ρ p = v at hr
  generalize hw : ρ q = u at hrq
  cases hrq
  cases hr with
  | rnil => simp at h1; omega
  | rodd => simp at h1; omega
  | rsl sz n el own b off c us hn ho' hc hl h1' h k' =>
    have hi : i.toNat < n := by omega
    refine ⟨.pointer (some ⟨b, off + i.toNat * sz, none⟩), ?_, .rptr _ b _ (us i.toNat) (fun j x hj => h _ hi j x hj) (fun j x hj => k' _ hi j x hj)⟩
    simp only [execOp, ho, Instr.indexAt, hv, hw, asIntOf, Sem.run_bind, Sem.run_pure, Result.andThen_ok, pureEval_run hu, pureEval_run hs, h0, h1, and_self, if_true, add_plain']

/-- A place in a row that may be written. -/
theorem opS_indexMsl {t elem : TypeId} {p q : Operand} {l sz n : Nat} {k : IntKind} {i : Int} (ho : o.op = .indexAddr t p q)
    (hu : pureEval P (underlying t) = some (.slice elem)) (hs : pureEval P (Go.sizeOf elem) = some sz) (hp : opdA T p = .msl l sz n) (hq : opdA T q = .sc (.int k i)) (h0 : 0 ≤ i) (h1 : i < n) :
    OpS P o T H (.ptr l (i.toNat * sz)) := by
  refine opS_intro fun E w0 w ρ hg ht => ?_
  have hr := ht p (by simp [ho, Op.operands, Call.operands])
  rw [hp] at hr
  have hrq := ht q (by simp [ho, Op.operands, Call.operands])
  rw [hq] at hrq
  generalize hv : ρ p = v at hr
  generalize hw : ρ q = u at hrq
  cases hrq
  cases hr with
  | msl l sz n b hb hn =>
    refine ⟨.pointer (some ⟨b, i.toNat * sz, none⟩), ?_, .ptr l _ b hb⟩
    simp only [execOp, ho, Instr.indexAt, hv, hw, asIntOf, Sem.run_bind, Sem.run_pure, Result.andThen_ok, pureEval_run hu, pureEval_run hs, h0, h1, and_self, if_true, add_plain', Nat.zero_add]

theorem opS_lenMsl {t : TypeId} {c : Call} {p : Operand} {l sz n : Nat} (ho : o.op = .call c) (hc : c.callee = .builtin .len) (ha : c.args = #[p]) (htt : c.argTypes[0]? = some t)
    (hu : ∃ e, pureEval P (underlying t) = some (.slice e)) (hp : opdA T p = .msl l sz n) : OpS P o T H (.sc (.int .i64 n)) := by
  refine opS_intro fun E w0 w ρ hg ht => ?_
  obtain ⟨e, hu⟩ := hu
  have hr := ht p (by simp [ho, Op.operands, Call.operands, ha])
  rw [hp] at hr
  generalize hv : ρ p = v at hr
  refine ⟨.int .i64 n, ?_, .sc _ rfl⟩
  have hvs : ∃ A k, v = .slice A n k := by cases hr; exact ⟨_, _, rfl⟩
  obtain ⟨A, k, rfl⟩ := hvs
  simp [execOp, ho, resolve, hc, invoke, builtin, Builtin.len_, htt, ha, hv, pureEval_run hu, goInt]

theorem opS_len {t : TypeId} {c : Call} {p : Operand} {nl : Bool} {sz n : Nat} {el : Nat → List AV} {own : Own} (ho : o.op = .call c) (hc : c.callee = .builtin .len) (ha : c.args = #[p]) (htt : c.argTypes[0]? = some t)
    (hu : ∃ e, pureEval P (underlying t) = some (.slice e)) (hp : opdA T p = .rsl nl sz n el own) : OpS P o T H (.sc (.int .i64 n)) := by
  refine opS_intro fun E w0 w ρ hg ht => ?_
  obtain ⟨e, hu⟩ := hu
  have hr := ht p (by simp [ho, Op.operands, Call.operands, ha])
  rw [hp] at hr
  generalize hv : ρ p = v at hr
  refine ⟨.int .i64 n, ?_, .sc _ rfl⟩
  have hvs : ∃ A k, v = .slice A n k := by cases hr <;> exact ⟨_, _, rfl⟩
  obtain ⟨A, k, rfl⟩ := hvs
  simp [execOp, ho, resolve, hc, invoke, builtin, Builtin.len_, htt, ha, hv, pureEval_run hu, goInt]
end
end Go.Proofs.YtiipaliigpkfhaaGreat.Ab
