/- Part 21: functions: results in cells, deferred calls. -/
import Derived.Test.YtiipaliigpkfhaaGreatD2
import Derived.Recover
import Derived.RangeFuncLeaves
set_option linter.unusedVariables false
set_option linter.unusedSimpArgs false
namespace Go.Proofs.YtiipaliigpkfhaaGreat.Ab
open Go Go.RowKit

/-! ### Results -/
theorem resC_run {P : Program} {E : Env} {H : AHeap} {w0 w : World} (hg : Good E H w0 w) {T : List AV} {tmps : Array Value} (ht : RelT E T tmps) {g : ResultVar → Sem Value} (hg1 : ∀ t, g (.tmp t) = pure (tmps.getD t undef))
    (hg2 : ∀ a t, g (.cell a t) = (do loadVar t (← asAddr (tmps.getD a undef)))) : ∀ {rs : List ResultVar} {xs : List AV}, resC P H rs T = some xs →
    ∃ vs : List Value, (rs.mapM g).run P w = .ok vs w ∧ vs.length = xs.length ∧ ∀ (i : Nat) (x : AV), xs[i]? = some x → Rel E x (vs.getD i undef)
  | [], xs, h => by
    simp only [resC, Option.some.injEq] at h
    subst h
    exact ⟨[], rfl, rfl, fun i x hx => by simp at hx⟩
  | .cell a t :: r, xs, h => by
    unfold resC at h
    split at h
    · rename_i x ys hx hy
      cases h
      rw [Option.bind_eq_some_iff] at hx
      obtain ⟨cs, hcs, hx⟩ := hx
      have hrel : Rel E (T.getD a .any) (tmps.getD a undef) := by
        cases hT : T[a]? with
        | none => simp [List.getD_eq_getElem?_getD, hT]; exact .any _
        | some y => simpa [List.getD_eq_getElem?_getD, hT] using ht.2 a y hT
      obtain ⟨b, off, hv, hc⟩ := cellsOfA_at hg hrel hcs
      obtain ⟨v, hr, hrel2⟩ := loadA_run hc hx
      obtain ⟨vs, hvs, hl, hrs⟩ := resC_run hg ht hg1 hg2 hy
      refine ⟨v :: vs, ?_, by simp [hl], fun i x hx => ?_⟩
      · rw [List.mapM_cons, hg2, hv, Sem.run_bind, Sem.run_bind]
        simp only [asAddr, Sem.run_pure, Result.andThen_ok, hr]
        rw [Sem.run_bind, hvs]
        rfl
      · cases i with
        | zero => simp at hx; subst hx; simpa using hrel2
        | succ i => simpa using hrs i x (by simpa using hx)
    · cases h
  | .tmp t :: r, xs, h => by
    simp only [resC, Option.map_eq_some_iff] at h
    obtain ⟨ys, hy, rfl⟩ := h
    obtain ⟨vs, hv, hl, hr⟩ := resC_run hg ht hg1 hg2 hy
    refine ⟨tmps.getD t undef :: vs, ?_, by simp [hl], fun i x hx => ?_⟩
    · rw [List.mapM_cons, hg1]
      simp only [pure_bind]
      rw [Sem.run_bind, hv]
      rfl
    · cases i with
      | zero =>
        simp at hx
        subst hx
        rw [List.getD_cons_zero]
        cases hT : T[t]? with
        | none => exact .any _
        | some y => exact ht.2 t y hT
      | succ i => simpa using hr i x (by simpa using hx)

theorem resultC_run {P : Program} {E : Env} {H : AHeap} {w0 w : World} (hg : Good E H w0 w) {T : List AV} {tmps : Array Value} (ht : RelT E T tmps) {fn : Func} {x : AV} (h : resultC P H fn T = some x) :
    ∃ v, (results fn tmps).run P w = .ok v w ∧ Rel E x v := by
  unfold resultC at h
  cases hr : resC P H fn.results.toList T with
  | none => rw [hr] at h; cases h
  | some xs =>
    rw [hr] at h
    unfold results
    rw [Sem.run_bind, Array.mapM_eq_mapM_toList, Sem.run_map]
    suffices aux : ∀ (g : ResultVar → Sem Value), (∀ t, g (.tmp t) = pure (tmps.getD t undef)) → (∀ a t, g (.cell a t) = (do loadVar t (← asAddr (tmps.getD a undef)))) →
        ∃ v, ((Sem.run P (List.mapM g fn.results.toList) w).andThen fun a w' => Result.ok a.toArray w').andThen (fun a w' => Sem.run P (pure (if h : a.size = 1 then a[0] else Value.tuple a)) w') = Result.ok v w ∧ Rel E x v from
      aux _ (fun _ => rfl) (fun _ _ => rfl)
    intro g hg1 hg2
    obtain ⟨vs, hv, hl, hrel⟩ := resC_run hg ht hg1 hg2 hr
    rw [hv]
    match xs, hl, h with
    | [y], hl, h =>
      match vs, hl with
      | [v], _ =>
        simp only [Option.some.injEq] at h
        subst h
        exact ⟨v, rfl, by simpa using hrel 0 y rfl⟩
    | [], hl, h =>
      match vs, hl with
      | [], _ =>
        simp only [Option.some.injEq] at h
        subst h
        exact ⟨_, rfl, .tup _ _ rfl (fun j x hj => by simp at hj)⟩
    | y :: z :: r, hl, h =>
      match vs, hl with
      | a :: b :: s, hl =>
        simp only [Option.some.injEq] at h
        subst h
        refine ⟨.tuple (a :: b :: s).toArray, by simp [Result.andThen], .tup _ _ (by simpa using hl) (fun j x hj => by simpa using hrel j x hj)⟩

/-! ### Deferred calls -/
inductive DQ where
  | call (g : FuncId) (args : List AV)
  | mark (l : Nat)

def RelD (P : Program) (E : Env) : DQ → Deferred → Prop
  | .call g args, d => HasBody P g ∧ ∃ cap vs, d.target = .fn (.func g) cap ∧ vs = d.args ++ cap ∧ RelL E args vs
  | .mark l, d => ∃ b, d.target = .collected b ∧ E.φ l = some b

theorem RelD.mono {P : Program} {E E' : Env} {q : DQ} {d : Deferred} (h : RelD P E q d) (he : E.le E') : RelD P E' q d := by
  cases q with
  | call g args =>
    obtain ⟨h0, cap, vs, h1, h2, h3⟩ := h
    exact ⟨h0, cap, vs, h1, h2, h3.mono he⟩
  | mark l =>
    obtain ⟨b, h1, h2⟩ := h
    exact ⟨b, h1, he.φ h2⟩

inductive RelDs (P : Program) (E : Env) : List DQ → List Deferred → Prop where
  | nil : RelDs P E [] []
  | cons {q : DQ} {d : Deferred} {D : List DQ} {ds : List Deferred} (h : RelD P E q d) (k : RelDs P E D ds) : RelDs P E (q :: D) (d :: ds)

theorem RelDs.mono {P : Program} {E E' : Env} {D : List DQ} {ds : List Deferred} (h : RelDs P E D ds) (he : E.le E') : RelDs P E' D ds := by
  induction h with
  | nil => exact .nil
  | cons h k ih => exact .cons (h.mono he) ih

abbrev DefE := List DQ

def BodyOk (P : Program) (c : Code) (T : List AV) (H : AHeap) (D : DefE) (x : AExit) (T' : List AV) (H' : AHeap) (Wr : List Nat) (D' : DefE) : Prop :=
  (∀ (E : Env) (w0 w : World) (a : Act), Good E H w0 w → RelT E T a.tmps → RelDs P E D a.defers →
    c.wp P (fun e a' w' => ∃ E', RelX E' x e ∧ Ext H.length (· ∈ Wr) E H w E' H' w' ∧ Good E' H' w0 w' ∧ RelT E' T' a'.tmps ∧ RelDs P E' D' a'.defers) a w) ∧ Keeps H H' Wr

theorem BodyOk.of {P : Program} {c : Code} {T T' : List AV} {H H' : AHeap} {x : AExit} {Wr : List Nat} (h : CodeOk P c T H x T' H' Wr) (D : DefE) : BodyOk P c T H D x T' H' Wr D := by
  refine ⟨fun E w0 w a hg ht hd => ?_, h.2⟩
  refine wp_mono (h.1 H.length (· ∈ Wr) (Nat.le_refl _) (fun l hl _ => hl) E w0 w a a.defers (Nat.le_refl _) hg ht rfl) ?_
  rintro e a' w' ⟨E', y, T2, H2, ⟨rfl, rfl, rfl⟩, r, ex, g, t, d⟩
  exact ⟨E', r, ex, g, t, by rw [d]; exact hd.mono ex.le⟩

theorem BodyOk.seq {P : Program} {c d : Code} {T T1 T' : List AV} {H H1 H' : AHeap} {D D1 D' : DefE} {x : AExit} {W1 W2 : List Nat} (h : BodyOk P c T H D .normal T1 H1 W1 D1) (k : BodyOk P d T1 H1 D1 x T' H' W2 D') : BodyOk P (.seq c d) T H D x T' H' (W1 ++ W2) D' := by
  refine ⟨fun E w0 w a hg ht hd => ?_, h.2.trans k.2⟩
  refine wp_seq (wp_mono (h.1 E w0 w a hg ht hd) ?_)
  rintro e a' w' ⟨E1, r, ex, g, t, d1⟩
  cases r
  refine wp_mono (k.1 E1 w0 w' a' g t d1) ?_
  rintro e a2 w2 ⟨E2, r2, ex2, g2, t2, d2⟩
  exact ⟨E2, r2, (ex.weaken (Nat.le_refl _) (fun l _ hl => List.mem_append_left _ hl)).trans (ex2.weaken ex.len (fun l _ hl => List.mem_append_right _ hl)), g2, t2, d2⟩

theorem BodyOk.seqX {P : Program} {c d : Code} {T T' : List AV} {H H' : AHeap} {D D' : DefE} {x : AExit} {W1 : List Nat} (h : BodyOk P c T H D x T' H' W1 D') (hx : x ≠ .normal) : BodyOk P (.seq c d) T H D x T' H' W1 D' := by
  refine ⟨fun E w0 w a hg ht hd => ?_, h.2⟩
  refine wp_seq (wp_mono (h.1 E w0 w a hg ht hd) ?_)
  rintro e a' w' ⟨E1, r, ex, g, t, d1⟩
  cases r with
  | normal => exact absurd rfl hx
  | exit i => exact ⟨E1, .exit i, ex, g, t, d1⟩
  | goto i => exact ⟨E1, .goto i, ex, g, t, d1⟩
  | ret => exact ⟨E1, .ret, ex, g, t, d1⟩
  | panic y v hv => exact ⟨E1, .panic y v hv, ex, g, t, d1⟩

/-- A row that makes a closure and defers its call. -/
def hasBody (P : Program) (g : FuncId) : Bool :=
  match P.funcs[g]? with
  | some fn => !(fn.name == "runtime.NumGoroutine") && fn.body.isSome
  | none => false

theorem hasBody_ok {P : Program} {g : FuncId} (h : hasBody P g = true) : HasBody P g := by
  unfold hasBody at h
  split at h
  · rename_i fn hf
    simp only [Bool.and_eq_true, Bool.not_eq_true', Option.isSome_iff_exists] at h
    obtain ⟨h1, c, hc⟩ := h
    exact ⟨fn, c, hf, h1, hc⟩
  · cases h

def deferA (P : Program) (ops : Array Oper) (T : List AV) (H : AHeap) : Option (List AV × FuncId × List AV) :=
  match ops.toList with
  | [o1, o2] => match o1.guard, o2.guard, o2.dst, o2.op, stepS P o1 T H with
    | none, none, none, .defer c, some x => match c.callee with
      | .value f => match opdA (putA T o1.dst x) f with
        | .fn (.func g) first caps => if hasBody P g = true then some (putA T o1.dst x, g, first ++ c.args.toList.map (opdA (putA T o1.dst x)) ++ caps) else none
        | _ => none
      | _ => none
    | _, _, _, _, _ => none
  | _ => none

theorem deferA_ok {P : Program} {id : Nat} {ops : Array Oper} {T T' : List AV} {H : AHeap} {D : DefE} {g : FuncId} {args : List AV} (h : deferA P ops T H = some (T', g, args)) : BodyOk P (.region id ops false) T H D .normal T' H [] (.call g args :: D) := by
  refine ⟨fun E w0 w a hg ht hd => ?_, .refl _ _⟩
  unfold deferA at h
  split at h
  · rename_i o1 o2 hops
    split at h
    · rename_i c x hg1 hg2 hdst ho2 hs
      split at h
      · rename_i f hcal
        split at h
        · rename_i g' first caps hf
          split at h
          · rename_i hb
            simp only [Option.some.injEq, Prod.mk.injEq] at h
            obtain ⟨rfl, rfl, rfl⟩ := h
            have hop : ops = #[o1, o2] := by apply Array.ext'; simpa using hops
            subst hop
            refine wp_region ?_
            show wpOps P #[o1, o2] _ [0, 1] a w
            have w1 : Region.wanted o1 (yielded #[o1, o2] a.tmps) = true := by unfold Region.wanted; rw [hg1]
            simp only [wpOps, List.getElem?_toArray, List.getElem?_cons_zero, w1, if_true]
            obtain ⟨v, hrun, hrel⟩ := stepS_sound hs E w0 w a.eval hg (ht.o o1)
            refine .inl ?_
            unfold Oper.wp
            rw [hrun, Oper.upon_value]
            have ht1 := put_rel ht o1.dst hrel
            have hd1 : RelDs P E D (a.put o1.dst v).defers := by rw [put_defers']; exact hd
            generalize a.put o1.dst v = a1 at ht1 hd1
            have w2 : Region.wanted o2 (yielded #[o1, o2] a1.tmps) = true := by unfold Region.wanted; rw [hg2]
            simp only [List.getElem?_cons_succ, List.getElem?_cons_zero, w2, if_true]
            refine .inl ?_
            have hr := opd_rel ht1 f
            rw [hf] at hr
            generalize hv : a1.eval f = u at hr
            cases hr with
            | fn _ _ _ us vs h1 h2 k1 k2 =>
              have hrun2 : (execOp a1.eval o2).run P w = .ok (.defer { target := .fn (.func g') vs, args := us ++ c.args.map a1.eval }) w := by
                simp only [execOp, ho2, resolve, hcal, hv, Deferred.ofValue, pure_bind, Sem.run_pure, Sem.run_bind, Result.andThen_ok]
              rw [hrun2, Oper.upon_defer, hdst]
              refine ⟨E, .normal, .refl _ _ _ _ _, hg, ht1, .cons ⟨hasBody_ok hb, vs, _, rfl, rfl, ?_⟩ hd1⟩
              exact relL_append (relL_append ⟨h1, k1⟩ (rel_list c.args (fun y hy => opd_rel ht1 y))) ⟨h2, k2⟩
          · cases h
        · cases h
      · cases h
    · cases h
  · cases h

/-- A mark is done with. -/
theorem Good.kill {E : Env} {H : AHeap} {w0 w : World} (g : Good E H w0 w) {l b : Nat} {k : Bool} (hl : H[l]? = some (.mark k)) (hb : E.φ l = some b) (o' : Obj) : Good E (H.set l .dead) w0 { w with heap := w.heap.setIfInBounds b o' } := by
  have hown : owns E H l b := by unfold owns; rw [hl]; exact hb
  obtain ⟨h1, ob, h3, h4⟩ := g.obj hl b hb
  have hlt : l < H.length := (List.getElem?_eq_some_iff.1 hl).1
  have hoth : ∀ c, c ≠ b → ({ w with heap := w.heap.setIfInBounds b o' } : World).heap[c]? = w.heap[c]? := fun c hc => Array.getElem?_setIfInBounds_ne (Ne.symm hc)
  have owns_set : ∀ (z c : Nat), owns E (H.set l .dead) z c → owns E H z c := by
    intro z c h
    by_cases hz : l = z
    · subst hz
      unfold owns at h
      rw [List.getElem?_set_self hlt] at h
      exact h.elim
    · unfold owns at h ⊢
      rw [List.getElem?_set_ne hz] at h
      exact h
  refine ⟨g.below.trans ⟨rfl, rfl, rfl, by simp, fun k hk => hoth k (by omega)⟩, ?_, ?_, ?_, ?_, ?_⟩
  · intro c o u h
    have hne : c ≠ b := fun e => by
      subst e
      have := g.snap h
      unfold markIs at h4
      split at h4
      · subst h4; simp [World.cell?, h3] at this
      · obtain ⟨q, rfl, _⟩ := h4; simp [World.cell?, h3] at this
    rw [cell_same (hoth c hne)]
    exact g.snap h
  · intro z o h
    by_cases hz : l = z
    · subst hz
      rw [List.getElem?_set_self hlt] at h
      simp only [Option.some.injEq] at h
      subst h
      trivial
    · rw [List.getElem?_set_ne hz] at h
      exact (g.obj h).step h (.refl E) (fun _ h => h) (fun _ => rfl) (fun _ _ _ _ h => h) (fun c hc => hoth c (fun e => hz (by subst e; exact g.sep hown hc)))
  · intro z z' c h h'
    exact g.sep (owns_set _ _ h) (owns_set _ _ h')
  · intro z hz; exact g.fresh (by simpa using hz)
  · intro z c h
    have := g.φlt h
    simpa using this

theorem kill_ext {E : Env} {H : AHeap} {w0 w : World} {n0 : Nat} {W : Nat → Prop} (g : Good E H w0 w) {l b : Nat} {k : Bool} {ob : Obj} (hW : l < n0 → W l) (hl : H[l]? = some (.mark k)) (hb : E.φ l = some b) :
    Ext n0 W E H w E (H.set l .dead) { w with heap := w.heap.setIfInBounds b ob } := by
  have hown : owns E H l b := by unfold owns; rw [hl]; exact hb
  refine ⟨.refl E, by simp, by simp, fun {z} hz hw => ?_, fun {z c} hz hw ho => ?_, fun _ => rfl, fun {c} hc h => ⟨Array.getElem?_setIfInBounds_ne (fun e => h _ (e ▸ hown)), fun z ho => h z ?_, fun _ => rfl⟩⟩
  · have : l ≠ z := fun e => hw (e ▸ hW (e ▸ hz))
    exact List.getElem?_set_ne this
  · refine Array.getElem?_setIfInBounds_ne (fun e => ?_)
    subst e
    have := g.sep ho hown
    subst this
    exact hw (hW hz)
  · unfold owns at ho ⊢
    by_cases hz : l = z
    · subst hz
      rw [List.getElem?_set_self (List.getElem?_eq_some_iff.1 hl).1] at ho
      exact ho.elim
    · rwa [List.getElem?_set_ne hz] at ho

theorem Good.newMark {E : Env} {H : AHeap} {w0 w : World} (g : Good E H w0 w) {k : Bool} {o : Obj} (ho : markIs k o) : Good (E.withφ H.length w.heap.size) (H ++ [.mark k]) w0 (w.alloc o) := by
  refine (g.push o).adopt (by rw [alloc_size]; omega) (fun l ho => absurd (g.ownlt ho) (Nat.lt_irrefl _)) (fun _ _ => by simp) ?_
  intro b hb
  rw [withφ_self] at hb
  simp only [Option.some.injEq] at hb
  subst hb
  exact ⟨g.below.size, o, heap_alloc_new w _, ho⟩

/-- Ranging over a function that yields nothing. -/
theorem rangeNone_ok {P : Program} {call : CallE} (hc : CallOk P call) {g : Operand} {ps : Array Tmp} {assign body : Code} {T : List AV} {H H1 : AHeap} {D : DefE} {gf : FuncId} {first caps : List AV} {x : AV} {Wr : List Nat} (hgo : opdA T g = .fn (.func gf) first caps)
    (hcall : call gf (first ++ [.any] ++ caps) ((H ++ [.mark true]) ++ [.mark false]) = .ok (x, H1, Wr)) (h1 : H1[H.length + 1]? = some (.mark false)) : BodyOk P (.rangeFunc g ps assign body) T H D .normal T (H1.set (H.length + 1) .dead) (Wr ++ [H.length + 1]) (.mark H.length :: D) := by
  have hctr := hc _ _ _ _ _ _ hcall
  have hk := hctr.2.2
  refine ⟨fun E w0 w a hg ht hd b k cs => ?_, ?_⟩
  · have g1 := hg.newMark (k := true) (o := .deferred (some [])) (by simp [markIs])
    have x1 : Ext H.length (fun _ => False) E H w (E.withφ H.length w.heap.size) (H ++ [.mark true]) (w.alloc (.deferred (some []))) := new_ext _ _ (Nat.le_refl _) hg _ _
    let r : Loop := { state := .ready, pending := none, fn := b.fn, tmps := a.tmps, params := ps, assign := assign, body := body, defers := w.heap.size }
    have g2 := g1.newMark (k := false) (o := .loop r) (by unfold markIs; exact ⟨r, rfl, rfl, rfl⟩)
    have x2 : Ext H.length (fun _ => False) _ _ _ _ _ ((w.alloc (.deferred (some []))).alloc (.loop r)) := new_ext _ _ (by simp) g1 (.loop r) (.mark false)
    have x12 := x1.trans x2
    have hn1 : (H ++ [AObj.mark true]).length = H.length + 1 := by simp
    rw [hn1] at g2 x12
    have hs1 : (w.alloc (.deferred (some []))).heap.size = w.heap.size + 1 := alloc_size _ _
    rw [hs1] at g2 x12
    generalize hE1 : (E.withφ H.length w.heap.size).withφ (H.length + 1) (w.heap.size + 1) = E1 at g2 x12
    have hφ0 : E1.φ H.length = some w.heap.size := by rw [← hE1, withφ_ne _ (by omega), withφ_self]
    have hφ1 : E1.φ (H.length + 1) = some (w.heap.size + 1) := by rw [← hE1, withφ_self]
    have hr := opd_rel ht g
    rw [hgo] at hr
    generalize hv : a.eval g = u at hr
    cases hr with
    | fn _ _ _ us vs q1 q2 k1 k2 =>
      have hrel : RelL E1 (first ++ [.any] ++ caps) (us ++ #[.func (.yield (w.heap.size + 1)) #[] #[]] ++ vs) := by
        refine RelL.mono x12.le (relL_append (relL_append ⟨q1, k1⟩ ⟨rfl, fun i y hy => ?_⟩) ⟨q2, k2⟩)
        cases i with
        | zero => simp at hy; subst hy; exact .any _
        | succ i => simp at hy
      have he : (Instr.enterLoop b.fn a.tmps ps assign body none).run P w = .ok (w.heap.size + 1, [{ target := .collected w.heap.size, args := #[] }]) ((w.alloc (.deferred (some []))).alloc (.loop r)) := by
        simp only [Instr.enterLoop, newObj, Sem.run_bind, Sem.run, Sem.run_pure, pure_bind, Result.andThen_ok, Array.size_push]
        rfl
      have hres : (resolve a.eval (rangeCall g (w.heap.size + 1)) 0).run P ((w.alloc (.deferred (some []))).alloc (.loop r)) = .ok { target := .fn (.func gf) vs, args := us ++ #[.func (.yield (w.heap.size + 1)) #[] #[]] } ((w.alloc (.deferred (some []))).alloc (.loop r)) := by
        have hcst : ∀ v, a.eval (.const v) = v := fun _ => rfl
        simp [resolve, rangeCall, hv, hcst, Deferred.ofValue]
      obtain ⟨fn', c', hf', hn', hb'⟩ := hctr.1
      have hinv : (invoke (.fn (.func gf) vs) (us ++ #[.func (.yield (w.heap.size + 1)) #[] #[]])).run P ((w.alloc (.deferred (some []))).alloc (.loop r)) = .ok (.enter gf (us ++ #[.func (.yield (w.heap.size + 1)) #[] #[]] ++ vs)) ((w.alloc (.deferred (some []))).alloc (.loop r)) := by
        have h1 : fn'.name ≠ "runtime.NumGoroutine" := by simpa using hn'
        simp [invoke, callFunc, hf', h1, hb']
      have henter := stepR_rangeFunc (P := P) (b := { b with roundOf := none }) (a := a) (k := k) (cs := cs) (w := w) he hres hinv
      obtain ⟨e, w3, fr, ⟨E2, re, ex2, g3⟩, hsteps, hfn, hleave⟩ := hctr.2.1 E1 w0 _ _ g2 hrel (Frame.atR { b with roundOf := none } { a with defers := [{ target := .collected w.heap.size, args := #[] }] ++ a.defers } (.inRangeFunc (w.heap.size + 1) :: k) :: cs)
      cases re with
      | ret x v hv' =>
        obtain ⟨_, ob, h5, h6⟩ := g3.obj h1 _ (ex2.le.φ hφ1)
        unfold markIs at h6
        simp only [Bool.false_eq_true, if_false] at h6
        obtain ⟨r', rfl, h7, h8⟩ := h6
        have hend : (Instr.endLoop (w.heap.size + 1)).run P w3 = .ok none { w3 with heap := w3.heap.setIfInBounds (w.heap.size + 1) (.loop { r' with state := .exhausted }) } := by
          have hget : (getObj (w.heap.size + 1)).run P w3 = .ok (.loop r') w3 := by simp [getObj, Sem.run, h5]
          have hset : ∀ o', (setObj (w.heap.size + 1) o').run P w3 = .ok () { w3 with heap := w3.heap.setIfInBounds (w.heap.size + 1) o' } := fun o' => by simp [setObj, Sem.run, h5]
          simp only [Instr.endLoop, Instr.getLoop, Sem.run_bind, hget, Result.andThen_ok, Sem.run_pure, h7, hset, h8, Bool.false_eq_true, if_false, pure_bind]
        refine ⟨.normal, { a with defers := [{ target := .collected w.heap.size, args := #[] }] ++ a.defers }, _, ⟨E2, .normal, ?_, g3.kill h1 (ex2.le.φ hφ1) (.loop { r' with state := .exhausted }), ht.mono (x12.le.trans ex2.le), .cons ⟨_, rfl, ex2.le.φ hφ0⟩ (hd.mono (x12.le.trans ex2.le))⟩, ?_⟩
        · refine (x12.weaken (Nat.le_refl _) (fun _ _ h => h.elim)).trans ((ex2.weaken (by simp) (fun l _ hl => List.mem_append_left _ hl)).trans (kill_ext g3 (fun h => by omega) h1 (ex2.le.φ hφ1)))
        · refine Steps.trans (.one henter) (Steps.trans hsteps (.head (step_leave_returned hleave) ?_))
          rw [finish_atR_inRangeFunc]
          exact .one (stepR_endRangeFunc hend)
  · have hk0 : Keeps H ((H ++ [AObj.mark true]) ++ [AObj.mark false]) [] := (Keeps.push _ _).trans (Keeps.push _ _)
    have hk1 := hk0.trans hk
    refine ⟨by simpa using hk1.1, fun l hl hm => ?_⟩
    rw [List.mem_append, not_or] at hm
    rw [List.getElem?_set_ne (by omega)]
    exact hk1.2 l hl (by simpa using hm.1)

def unblock (i : Nat) : AExit → AExit
  | .exit j => if j = i then .normal else .exit j
  | y => y

theorem BodyOk.block {P : Program} {i : Nat} {c : Code} {T T' : List AV} {H H' : AHeap} {D D' : DefE} {x : AExit} {W1 : List Nat} (h : BodyOk P c T H D x T' H' W1 D') : BodyOk P (.block i c) T H D (unblock i x) T' H' W1 D' := by
  refine ⟨fun E w0 w a hg ht hd => ?_, h.2⟩
  refine wp_block (wp_mono (h.1 E w0 w a hg ht hd) ?_)
  rintro e a' w' ⟨E1, r, ex, g, t, d1⟩
  cases r with
  | normal => exact ⟨E1, .normal, ex, g, t, d1⟩
  | exit j =>
    by_cases hj : j = i
    · simp only [Exit.inBlock, unblock, hj, if_true]
      exact ⟨E1, .normal, ex, g, t, d1⟩
    · simp only [Exit.inBlock, unblock, hj, if_false]
      exact ⟨E1, .exit j, ex, g, t, d1⟩
  | goto i => exact ⟨E1, .goto i, ex, g, t, d1⟩
  | ret => exact ⟨E1, .ret, ex, g, t, d1⟩
  | panic y v hv => exact ⟨E1, .panic y v hv, ex, g, t, d1⟩

theorem BodyOk.cond {P : Program} {c : Operand} {a b : Code} {t : Bool} {T T' : List AV} {H H' : AHeap} {D D' : DefE} {x : AExit} {W1 : List Nat} (hc : opdA T c = .sc (.bool t)) (h : BodyOk P (if t then a else b) T H D x T' H' W1 D') : BodyOk P (.cond c a b) T H D x T' H' W1 D' := by
  refine ⟨fun E w0 w act hg ht hd => ?_, h.2⟩
  have hr := opd_rel ht c
  rw [hc] at hr
  generalize hv : act.eval c = v at hr
  cases hr with
  | sc v hp => exact wp_cond hv (h.1 E w0 w act hg ht hd)

abbrev OutB := AExit × List AV × AHeap × List Nat × DefE

def evB (P : Program) (call : CallE) (n : Nat) : Code → List AV → AHeap → DefE → Ev OutB
  | .seq a b, T, H, D => match evB P call n a T H D with
    | .ok (.normal, T1, H1, W1, D1) => match evB P call n b T1 H1 D1 with
      | .ok (x, T2, H2, W2, D2) => .ok (x, T2, H2, W1 ++ W2, D2)
      | .bad tr => .bad tr
    | r => r
  | .block i c, T, H, D => match evB P call n c T H D with
    | .ok (x, T1, H1, W1, D1) => .ok (unblock i x, T1, H1, W1, D1)
    | .bad tr => .bad tr
  | .cond c a b, T, H, D => match opdA T c with
    | .sc (.bool true) => evB P call n a T H D
    | .sc (.bool false) => evB P call n b T H D
    | _ => .bad [3000]
  | .rangeFunc g ps assign body, T, H, D => match opdA T g with
    | .fn (.func gf) first caps => match call gf (first ++ [.any] ++ caps) ((H ++ [.mark true]) ++ [.mark false]) with
      | .ok (x, H1, W1) => match H1[H.length + 1]? with
        | some (.mark false) => .ok (.normal, T, H1.set (H.length + 1) .dead, W1 ++ [H.length + 1], .mark H.length :: D)
        | _ => .bad [5001]
      | .bad tr => .bad (5002 :: tr)
    | _ => .bad [5003]
  | .region id ops false, T, H, D => match deferA P ops T H with
    | some (T', g, args) => .ok (.normal, T', H, [], .call g args :: D)
    | none => match evC P call n (.region id ops false) T H with
      | .ok (x, T', H', W) => .ok (x, T', H', W, D)
      | .bad tr => .bad tr
  | c, T, H, D => match evC P call n c T H with
    | .ok (x, T', H', W) => .ok (x, T', H', W, D)
    | .bad tr => .bad tr

theorem evB_ok {P : Program} {call : CallE} (hm : P.follows .mixedOrders = true) (hc : CallOk P call) (n : Nat) : ∀ (c : Code) (T : List AV) (H : AHeap) (D : DefE) (x : AExit) (T' : List AV) (H' : AHeap) (Wr : List Nat) (D' : DefE), evB P call n c T H D = .ok (x, T', H', Wr, D') → BodyOk P c T H D x T' H' Wr D' := by
  have other : ∀ (c : Code) (T : List AV) (H : AHeap) (D : DefE) (x : AExit) (T' : List AV) (H' : AHeap) (Wr : List Nat) (D' : DefE), (match evC P call n c T H with
    | .ok (x, T', H', W) => (.ok (x, T', H', W, D) : Ev (AExit × List AV × AHeap × List Nat × DefE))
    | .bad tr => .bad tr) = .ok (x, T', H', Wr, D') → BodyOk P c T H D x T' H' Wr D' := by
    intro c T H D x T' H' Wr D' h
    split at h
    · rename_i y T2 H2 W2 h2
      cases h
      exact .of (evC_ok hm hc n c _ _ _ _ _ _ h2) D
    · cases h
  intro c
  induction c with
  | seq a b iha ihb =>
    intro T H D x T' H' Wr D' h
    unfold evB at h
    split at h
    · rename_i T1 H1 W1 D1 h1
      split at h
      · rename_i y T2 H2 W2 D2 h2
        cases h
        exact (iha _ _ _ _ _ _ _ _ h1).seq (ihb _ _ _ _ _ _ _ _ h2)
      · cases h
    · rename_i hne
      have hne' : ∀ (T2 : List AV) (H2 : AHeap) (W2 : List Nat) (D2 : DefE), evB P call n a T H D ≠ .ok (.normal, T2, H2, W2, D2) := hne
      exact (iha _ _ _ _ _ _ _ _ h).seqX (fun e => by subst e; exact absurd h (hne' _ _ _ _))
  | region id ops draw =>
    intro T H D x T' H' Wr D' h
    cases draw with
    | true => exact other _ _ _ _ _ _ _ _ _ h
    | false =>
      unfold evB at h
      split at h
      · rename_i T2 g args hq
        cases h
        exact deferA_ok hq
      · exact other _ _ _ _ _ _ _ _ _ h
  | block i c ih =>
    intro T H D x T' H' Wr D' h
    unfold evB at h
    split at h
    · rename_i y T1 H1 W1 D1 h1
      cases h
      exact (ih _ _ _ _ _ _ _ _ h1).block
    · cases h
  | cond c a b iha ihb =>
    intro T H D x T' H' Wr D' h
    unfold evB at h
    split at h
    · rename_i ht
      exact .cond ht (iha _ _ _ _ _ _ _ _ h)
    · rename_i ht
      exact .cond ht (ihb _ _ _ _ _ _ _ _ h)
    · cases h
  | rangeFunc g ps assign body _ _ =>
    intro T H D x T' H' Wr D' h
    unfold evB at h
    split at h
    · rename_i gf first caps hgo
      split at h
      · rename_i y H1 W1 hcall
        split at h
        · rename_i h1
          cases h
          exact rangeNone_ok hc hgo hcall h1
        · cases h
      · cases h
    · cases h
  | _ => intro T H D x T' H' Wr D' h; exact other _ _ _ _ _ _ _ _ _ h
end Go.Proofs.YtiipaliigpkfhaaGreat.Ab
