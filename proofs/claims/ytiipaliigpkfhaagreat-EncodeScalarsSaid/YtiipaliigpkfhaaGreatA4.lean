/- Part 4: calls. -/
import Derived.Test.YtiipaliigpkfhaaGreatA3
import Derived.Conc.MuLone
set_option linter.unusedVariables false
namespace Go.Proofs.YtiipaliigpkfhaaGreat.Ab
open Go Go.RowKit

inductive AEnd where
  | ret (x : AV)
  | pan (x : AV)

inductive RelE (E : Env) : AEnd → Ending → Prop where
  | ret (x : AV) (v : Value) (h : Rel E x v) : RelE E (.ret x) (.returned v)
  | pan (x : AV) (v : Value) (h : Rel E x v) : RelE E (.pan x) (.panicked [{ v, recovered := false }])

/-- A call: what it ends with, the heap behind it, the labels of before that it may have written. -/
def CallsA (P : Program) (f : FuncId) (args : List AV) (out : AEnd) (H H' : AHeap) (W : Nat → Prop) : Prop :=
  ∀ (E : Env) (w0 w : World) (vs : Array Value), Good E H w0 w → RelL E args vs →
    Calls P f vs w fun e w' => ∃ E', RelE E' out e ∧ Ext H.length W E H w E' H' w' ∧ Good E' H' w0 w'

/-! ### Entering -/
/-- What is read as the results. -/
def resA (rs : List ResultVar) (T : List AV) : Option (List AV) :=
  match rs with
  | [] => some []
  | .tmp t :: r => (resA r T).map (T.getD t .any :: ·)
  | _ => none

def resultA (fn : Func) (T : List AV) : Option AV :=
  match resA fn.results.toList T with
  | some [x] => some x
  | some xs => some (.tup xs)
  | none => none

theorem resA_run {E : Env} {T : List AV} {tmps : Array Value} (ht : RelT E T tmps) (P : Program) (w : World) {g : ResultVar → Sem Value} (hg : ∀ t, g (.tmp t) = pure (tmps.getD t undef)) : ∀ {rs : List ResultVar} {xs : List AV}, resA rs T = some xs →
    ∃ vs : List Value, (rs.mapM g).run P w = .ok vs w ∧ vs.length = xs.length ∧ ∀ (i : Nat) (x : AV), xs[i]? = some x → Rel E x (vs.getD i undef)
  | [], xs, h => by
    simp only [resA, Option.some.injEq] at h
    subst h
    exact ⟨[], rfl, rfl, fun i x hx => by simp at hx⟩
  | .cell a t :: r, xs, h => by simp [resA] at h
  | .tmp t :: r, xs, h => by
    simp only [resA, Option.map_eq_some_iff] at h
    obtain ⟨ys, hy, rfl⟩ := h
    obtain ⟨vs, hv, hl, hr⟩ := resA_run ht P w hg hy
    refine ⟨tmps.getD t undef :: vs, ?_, by simp [hl], fun i x hx => ?_⟩
    · rw [List.mapM_cons, hg]
      simp only [pure_bind]
      rw [Sem.run_bind, hv]
      rfl
    · cases i with
      | zero =>
        simp at hx
        subst hx
        rw [List.getD_cons_zero]
        cases hT : T[t]? with
        | none => exact .any _
        | some y => exact ht.2 t y hT
      | succ i => simpa using hr i x (by simpa using hx)

theorem resultA_run {E : Env} {T : List AV} {tmps : Array Value} (ht : RelT E T tmps) {fn : Func} {x : AV} (h : resultA fn T = some x) (P : Program) (w : World) :
    ∃ v, (results fn tmps).run P w = .ok v w ∧ Rel E x v := by
  unfold resultA at h
  cases hr : resA fn.results.toList T with
  | none => rw [hr] at h; cases h
  | some xs =>
    rw [hr] at h
    unfold results
    rw [Sem.run_bind, Array.mapM_eq_mapM_toList, Sem.run_map]
    suffices aux : ∀ (g : ResultVar → Sem Value), (∀ t, g (.tmp t) = pure (tmps.getD t undef)) →
        ∃ v, ((Sem.run P (List.mapM g fn.results.toList) w).andThen fun a w' => Result.ok a.toArray w').andThen (fun a w' => Sem.run P (pure (if h : a.size = 1 then a[0] else Value.tuple a)) w') = Result.ok v w ∧ Rel E x v from
      aux _ (fun _ => rfl)
    intro g hg
    obtain ⟨vs, hv, hl, hrel⟩ := resA_run ht P w hg hr
    rw [hv]
    match xs, hl, h with
    | [y], hl, h =>
      match vs, hl with
      | [v], _ =>
        simp only [Option.some.injEq] at h
        subst h
        exact ⟨v, rfl, by simpa using hrel 0 y rfl⟩
    | [], hl, h =>
      match vs, hl with
      | [], _ =>
        simp only [Option.some.injEq] at h
        subst h
        exact ⟨_, rfl, .tup _ _ rfl (fun j x hj => by simp at hj)⟩
    | y :: z :: r, hl, h =>
      match vs, hl with
      | a :: b :: s, hl =>
        simp only [Option.some.injEq] at h
        subst h
        refine ⟨.tuple (a :: b :: s).toArray, by simp [Sem.run, Result.andThen], .tup _ _ (by simpa using hl) (fun j x hj => by simpa using hrel j x hj)⟩

def bodyQ (fn : Func) (out : AEnd) (H' : AHeap) : AExit → List AV → AHeap → Prop
  | .normal, T, H => H = H' ∧ ∃ x, resultA fn T = some x ∧ out = .ret x
  | .ret, T, H => H = H' ∧ ∃ x, resultA fn T = some x ∧ out = .ret x
  | .panic x, _, H => H = H' ∧ out = .pan x
  | _, _, _ => False

theorem callsA_of_wp {P : Program} {f : FuncId} {fn : Func} {c : Code} {args : List AV} {out : AEnd} {H H' : AHeap} {W : Nat → Prop} (hf : P.funcs[f]? = some fn) (hb : fn.body = some c)
    (h : wpA P H.length W c (bodyQ fn out H') (args ++ List.replicate (fn.ntmps - args.length) .any) H) : CallsA P f args out H H' W := by
  intro E w0 w vs hg hr
  refine calls_of_wp hf hb ?_
  have ht : RelT E (args ++ List.replicate (fn.ntmps - args.length) .any) (vs ++ Array.replicate (fn.ntmps - vs.size) undef) := by
    refine ⟨by simp [hr.1], fun i x hx => ?_⟩
    by_cases hi : i < args.length
    · rw [List.getElem?_append_left hi] at hx
      have := hr.2 i x hx
      have hi' : i < vs.size := by rw [hr.1]; exact hi
      have e : (vs ++ Array.replicate (fn.ntmps - vs.size) undef).getD i undef = vs.getD i undef := by
        simp [Array.getD_eq_getD_getElem?, Array.getElem?_append, hi']
      rw [e]; exact this
    · rw [List.getElem?_append_right (by omega)] at hx
      have := List.mem_of_getElem? hx
      rw [List.mem_replicate] at this
      rw [this.2]
      exact .any _
  refine wp_mono (h E w0 w ⟨_, []⟩ [] (Nat.le_refl _) hg ht rfl) ?_
  rintro e a' w' ⟨E', x, T', H1, q, r, ex, g, t, d⟩
  cases r with
  | normal =>
    obtain ⟨rfl, y, hy, rfl⟩ := q
    obtain ⟨v, hv, hrel⟩ := resultA_run t hy P w'
    exact ⟨d, v, hv, E', .ret _ _ hrel, ex, g⟩
  | ret =>
    obtain ⟨rfl, y, hy, rfl⟩ := q
    obtain ⟨v, hv, hrel⟩ := resultA_run t hy P w'
    exact ⟨d, v, hv, E', .ret _ _ hrel, ex, g⟩
  | panic x v hv =>
    obtain ⟨rfl, rfl⟩ := q
    exact ⟨d, E', .pan _ _ hv, ex, g⟩
  | exit id => exact q.elim
  | goto l => exact q.elim

/-! ### Forgetting what a call has made -/
/-- Nothing of before has been written, and the answer bears no label: what was made is forgotten. -/
theorem forget_state {E E' : Env} {H H' : AHeap} {w0 w w' : World} {x : AV} {v : Value} (hg : Good E H w0 w) (ex : Ext H.length (fun _ => False) E H w E' H' w') (g : Good E' H' w0 w') (hv : Rel E' x v) (hl : LF x) :
    ∃ E2, Ext H.length (fun _ => False) E H w E2 H w' ∧ Good E2 H w0 w' ∧ Rel E2 x v := by
  have hle : E.le { E with S := E'.S } := ⟨fun h => h, fun h => ex.le.S h, fun h => h⟩
  refine ⟨{ E with S := E'.S }, ⟨hle, ex.size, Nat.le_refl _, fun _ _ => rfl, ex.keep, fun _ => rfl, fun hb h => ⟨(ex.stay hb h).1, h, (ex.stay hb h).2.2⟩⟩, ?_, hv.lf hl (fun h => h)⟩
  refine ⟨g.below, fun h => g.snap h, ?_, ?_, ?_, ?_⟩
  · intro l o ho
    have hlt : l < H.length := (List.getElem?_eq_some_iff.1 ho).1
    refine (hg.obj ho).step ho hle (fun _ h => h) (fun _ => rfl) (fun b c hb hc hn => ?_) (fun b hb => ex.keep hlt (fun h => h) hb)
    have ho' := (ex.same hlt (fun h => h)).trans ho
    have hx := g.obj ho'
    have hk := ex.keep hlt (fun h => h) hb
    unfold owns at hb
    rw [ho] at hb
    cases o with
    | dead => exact hb.elim
    | cells cs => exact (hx b (ex.le.φ hb)).2.1 c
    | map es =>
      cases hs : E'.S b c with
      | none => rfl
      | some u =>
        obtain ⟨_, ms, ck, h3, _⟩ := hx b (ex.le.φ hb)
        have := g.snap hs
        simp [World.cell?, h3] at this
    | iter m =>
      cases hs : E'.S b c with
      | none => rfl
      | some u =>
        obtain ⟨_, r, ck, _, h3⟩ := hx b (ex.le.φ hb)
        have := g.snap hs
        simp [World.cell?, h3] at this
    | mark k =>
      cases hs : E'.S b c with
      | none => rfl
      | some u =>
        obtain ⟨_, r, h3, h4⟩ := hx b (ex.le.φ hb)
        have := g.snap hs
        unfold markIs at h4
        split at h4
        · subst h4; simp [World.cell?, h3] at this
        · obtain ⟨q, rfl, _⟩ := h4; simp [World.cell?, h3] at this
    | tail n sz =>
      obtain ⟨k, hk'⟩ := hb
      obtain ⟨b', c', arr, T, h1, _, _, _, _, _, h7, _⟩ := hx
      rw [ex.le.G hk'] at h1
      simp only [Option.some.injEq, Prod.mk.injEq] at h1
      rw [h1.1]
      exact h7 c (hc n sz rfl)
  · exact hg.sep
  · exact hg.fresh
  · exact fun h => Nat.lt_of_lt_of_le (hg.φlt h) ex.size
end Go.Proofs.YtiipaliigpkfhaaGreat.Ab
