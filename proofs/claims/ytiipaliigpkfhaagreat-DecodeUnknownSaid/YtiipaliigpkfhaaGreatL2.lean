/- Part L2: one round of a range over a function, where yield is called. -/
import Derived.Test.YtiipaliigpkfhaaGreatL1
set_option linter.unusedVariables false
set_option linter.unusedSimpArgs false
set_option maxRecDepth 100000
namespace Go.Proofs.YtiipaliigpkfhaaGreat.Ab
open Go Go.RowKit

section
variable {E : Env} {H : AHeap} {w0 w : World}

theorem put_oth {w : World} {b c : Nat} (o' : Obj) (h : c ≠ b) : (w.putObj b o').heap[c]? = w.heap[c]? := World.putObj_heap_other h

/-- A block that nobody owns and of which nothing is said may be written. -/
theorem Good.putFree (g : Good E H w0 w) {b : Nat} (hbase : w0.heap.size ≤ b) (hfree : ∀ k, ¬ owns E H k b) (hS : ∀ o, E.S b o = none) (o' : Obj) : Good E H w0 (w.putObj b o') := by
  have hsz : (w.putObj b o').heap.size = w.heap.size := by simp
  refine ⟨g.below.trans ⟨rfl, rfl, rfl, by rw [hsz]; exact Nat.le_refl _, fun k hk => put_oth o' (by omega)⟩, fun {c o u} h => ?_, fun {k q} h => ?_, g.sep, g.fresh, fun h => by rw [hsz]; exact g.φlt h⟩
  · have hne : c ≠ b := fun e => by subst e; rw [hS] at h; cases h
    rw [cell_same (put_oth o' hne)]
    exact g.snap h
  · exact (g.obj h).step h (.refl E) (fun _ h => h) (fun _ => rfl) (fun _ _ _ _ h => h) (fun c hc => put_oth o' (fun e => hfree k (e ▸ hc)))

/-- A label that was dead is its block's again. -/
theorem Good.revive (g : Good E H w0 w) {l b : Nat} {o : AObj} (hl : H[l]? = some .dead) (hb : E.φ l = some b) (hfree : ∀ k, ¬ owns E H k b) (hok : ∀ n sz, o ≠ .tail n sz) (ho : ObjRel E l o w0.heap.size w) : Good E (H.set l o) w0 w ∧ ∀ k c, owns E (H.set l o) k c → owns E H k c ∨ (k = l ∧ c = b) := by
  have hlt := (List.getElem?_eq_some_iff.1 hl).1
  have key : ∀ k c, owns E (H.set l o) k c → owns E H k c ∨ (k = l ∧ c = b) := by
    intro k c h
    by_cases hk : l = k
    · subst hk
      refine .inr ⟨rfl, ?_⟩
      unfold owns at h
      rw [List.getElem?_set_self hlt] at h
      cases o with
      | dead => exact h.elim
      | cells cs => exact Option.some.inj (h.symm.trans hb)
      | map es => exact Option.some.inj (h.symm.trans hb)
      | iter m => exact Option.some.inj (h.symm.trans hb)
      | mark k => exact Option.some.inj (h.symm.trans hb)
      | tail n sz => exact absurd rfl (hok n sz)
    · refine .inl ?_
      unfold owns at h ⊢
      rwa [List.getElem?_set_ne hk] at h
  refine ⟨⟨g.below, fun h => g.snap h, fun {k q} h => ?_, fun {k k' c} h1 h2 => ?_, fun {k} h => g.fresh (by simpa using h), fun h => g.φlt h⟩, key⟩
  · by_cases hk : l = k
    · subst hk
      rw [List.getElem?_set_self hlt] at h
      cases h
      exact ho
    · rw [List.getElem?_set_ne hk] at h
      exact g.obj h
  · rcases key _ _ h1 with a | ⟨a, a'⟩ <;> rcases key _ _ h2 with c | ⟨c, c'⟩
    · exact g.sep a c
    · subst c'; exact absurd a (hfree _)
    · subst a'; exact absurd c (hfree _)
    · rw [a, c]
end

/-- What a call of yield does: what it answers, the heap behind it. -/
def Rounds1 (P : Program) (l : Nat) (xs : List AV) (H : AHeap) (v : Bool) (H' : AHeap) (Wr : List Nat) : Prop :=
  (∀ (E : Env) (w0 w : World) (vs : Array Value) (b : Nat), Good E H w0 w → RelL E xs vs → E.φ l = some b → ∃ fn tmps as bd, (Instr.yield b vs).run P w = .ok (.round b fn tmps as bd) w ∧
    RoundIn Fence.wide 0 P b fn tmps as bd w (fun e w' => e = .returned (.bool v) ∧ ∃ E', Ext H.length (· ∈ Wr) E H w E' H' w' ∧ Good E' H' w0 w')) ∧ Keeps H H' Wr

def setAll (T : List AV) : List Tmp → List AV → List AV
  | p :: ps, x :: xs => setAll (T.set p x) ps xs
  | _, _ => T

theorem setAll_rel {E : Env} : ∀ (ps : List Tmp) (xs : List AV) (vs : List Value) (T : List AV) (tmps : Array Value), xs.length = ps.length → vs.length = ps.length → (∀ i x, xs[i]? = some x → Rel E x (vs.getD i undef)) → RelT E T tmps →
    RelT E (setAll T ps xs) ((ps.zip vs).foldl (fun t (p, v) => t.setIfInBounds p v) tmps)
  | [], _, _, T, tmps, _, _, _, ht => by simpa [setAll] using ht
  | p :: ps, [], _, T, tmps, h, _, _, ht => by simp at h
  | p :: ps, x :: xs, [], T, tmps, _, h, _, ht => by simp at h
  | p :: ps, x :: xs, v :: vs, T, tmps, h1, h2, hr, ht => by
    simp only [setAll, List.zip_cons_cons, List.foldl_cons]
    refine setAll_rel ps xs vs _ _ (by simpa using h1) (by simpa using h2) (fun i y hy => by simpa using hr (i + 1) y (by simpa using hy)) ?_
    have hx := hr 0 x rfl
    have hx' : Rel E x v := by simpa using hx
    refine ⟨by simp [ht.1], fun i y hy => ?_⟩
    by_cases hi : p = i
    · subst hi
      have hlt : p < T.length := by have := (List.getElem?_eq_some_iff.1 hy).1; simpa using this
      rw [List.getElem?_set_self hlt] at hy
      cases hy
      have : p < tmps.size := by rw [ht.1]; exact hlt
      simpa [Array.getD_eq_getD_getElem?, this] using hx'
    · rw [List.getElem?_set_ne hi] at hy
      have := ht.2 i y hy
      simpa [Array.getD_eq_getD_getElem?, Array.getElem?_setIfInBounds_ne hi] using this

/-- How a round is left. -/
inductive Left : AExit → Option Code → Bool → Prop where
  | normal : Left .normal none true
  | ret : Left .ret (some .ret) false
  | exit (i : Nat) : Left (.exit i) (some (.exit i)) false

theorem round_ok {P : Program} {l : Nat} {T : List AV} {ps : Array Tmp} {as bd : Code} {xs : List AV} {H H2 H3 : AHeap} {T2 T3 : List AV} {W2 W3 : List Nat} {x : AExit} {st : Option Code} {v : Bool}
    (hl : H[l]? = some (.mark (.loop T ps as bd none))) (hx : xs.length = ps.size) (h1 : CodeOkR P as (setAll T ps.toList xs) (H.set l .dead) .normal T2 H2 W2) (h2 : CodeOkR P bd T2 H2 x T3 H3 W3) (hd : H3[l]? = some .dead) (hv : Left x st v) :
    Rounds1 P l xs H v (H3.set l (.mark (.loop T ps as bd st))) (l :: (W2 ++ W3)) := by
  have hlt : l < H.length := (List.getElem?_eq_some_iff.1 hl).1
  have hk12 := h1.2.trans h2.2
  refine ⟨fun E w0 w vs b hg hrel hφ => ?_, ⟨by have := hk12.1; simpa using this, fun k hk hm => ?_⟩⟩
  · obtain ⟨hbase, ob, hob, r, rfl, hT, hps, has, hbd, hpe, hst⟩ := hg.obj hl b hφ
    have hown : owns E H l b := by unfold owns; rw [hl]; exact hφ
    obtain ⟨gk, kill⟩ := forget_obj hg l
    have hfree : ∀ k, ¬ owns E (H.set l .dead) k b := fun k hk => (kill k b hk).2 (hg.sep (kill k b hk).1 hown)
    have hblt : b < w.heap.size := (Array.getElem?_eq_some_iff.1 hob).1
    have hS0 : ∀ o, E.S b o = none := fun o => by
      cases hs : E.S b o with
      | none => rfl
      | some u => have := hg.snap hs; simp [World.cell?, hob] at this
    have hready : r.state = .ready := by rw [hst]; rfl
    have hsz : vs.size = r.params.size := by rw [hps, ← hx]; exact hrel.1
    refine ⟨r.fn, (ps.zip vs).foldl (fun t (p, v) => t.setIfInBounds p v) r.tmps, as, bd, ?_, ?_⟩
    · have := run_yield (P := P) (w := w) (l := b) (args := vs) hob hsz
      rw [this, has, hbd, hps]
    · have ht0 : RelT E (setAll T ps.toList xs) ((ps.zip vs).foldl (fun t (p, v) => t.setIfInBounds p v) r.tmps) := by
        have := setAll_rel (E := E) ps.toList xs vs.toList T r.tmps (by simpa using hx) (by rw [Array.length_toList, hrel.1, hx]; simp) (fun i y hy => by simpa [List.getD_eq_getElem?_getD, Array.getD_eq_getD_getElem?] using hrel.2 i y hy) hT
        have e : (ps.zip vs).foldl (fun t (p, v) => t.setIfInBounds p v) r.tmps = (ps.toList.zip vs.toList).foldl (fun t (p, v) => t.setIfInBounds p v) r.tmps := by
          rw [← Array.toList_zip, Array.foldl_toList]
        rw [e]; exact this
      refine roundIn_of_wpIn (F := Fence.wide) trivial ?_
      refine wpIn_mono (h1.1 b H.length (· ∈ l :: (W2 ++ W3)) (by simp) (fun k hk _ => List.mem_cons_of_mem _ (List.mem_append_left _ hk)) E w0 w { tmps := _, defers := [] } [] (by simp) gk ht0 rfl) ?_
      rintro e a1 w1 ⟨E1, y, T', H', ⟨rfl, rfl, rfl⟩, rx, ex1, g1, t1, d1⟩
      cases rx
      obtain ⟨s1, s2, s3⟩ := ex1.stay hblt hfree
      have hob1 : w1.heap[b]? = some (.loop r) := s1.trans hob
      have hS1 : ∀ o, E1.S b o = none := fun o => (s3 o).trans (hS0 o)
      refine ⟨_, run_beginRound hob1 hready, ?_⟩
      have g2 := g1.putFree hbase s2 hS1 (.loop { r with state := .busy })
      refine wpIn_mono (h2.1 b H.length (· ∈ l :: (W2 ++ W3)) (by have := h1.2.1; simpa using this) (fun k hk _ => List.mem_cons_of_mem _ (List.mem_append_right _ hk)) E1 w0 _ a1 [] (by have := h1.2.1; simpa using this) g2 t1 d1) ?_
      rintro e a3 w3 ⟨E3, y, T', H', ⟨rfl, rfl, rfl⟩, rx, ex3, g3, t3, d3⟩
      have hsz1 : (w1.putObj b (.loop { r with state := .busy })).heap.size = w1.heap.size := by simp
      have hb1 : b < w1.heap.size := (Array.getElem?_eq_some_iff.1 hob1).1
      obtain ⟨q1, q2, q3⟩ := ex3.stay (by rw [hsz1]; exact hb1) s2
      have hob3 : w3.heap[b]? = some (.loop { r with state := .busy }) := q1.trans (World.putObj_heap_same hb1)
      have hS3 : ∀ o, E3.S b o = none := fun o => (q3 o).trans (hS1 o)
      have hφ3 : E3.φ l = some b := ex3.le.φ (ex1.le.φ hφ)
      have fin : ∀ (jump : Option Code) (vv : Bool), Left y jump vv → (Instr.endRound b jump).run P w3 = .ok (.bool jump.isNone) (w3.putObj b (.loop { { r with state := .busy } with state := if jump.isNone then .ready else .done, pending := jump })) ∧
          (.returned (.bool jump.isNone) : Ending) = .returned (.bool vv) ∧ ∃ E', Ext H.length (· ∈ l :: (W2 ++ W3)) E H w E' (H'.set l (.mark (.loop T ps as bd jump))) (w3.putObj b (.loop { { r with state := .busy } with state := if jump.isNone then .ready else .done, pending := jump })) ∧
            Good E' (H'.set l (.mark (.loop T ps as bd jump))) w0 (w3.putObj b (.loop { { r with state := .busy } with state := if jump.isNone then .ready else .done, pending := jump })) := by
        intro jump vv hv'
        refine ⟨run_endRound jump hob3, by cases hv' <;> rfl, E3, ?_⟩
        generalize ho4 : Obj.loop { { r with state := .busy } with state := if jump.isNone then .ready else .done, pending := jump } = o4
        have g4 := g3.putFree hbase q2 hS3 o4
        have hb3 : b < w3.heap.size := (Array.getElem?_eq_some_iff.1 hob3).1
        obtain ⟨g5, own5⟩ := g4.revive (o := .mark (.loop T ps as bd jump)) hd hφ3 q2 (fun _ _ => by simp) (by
          intro c hc
          rw [hφ3] at hc
          cases hc
          refine ⟨hbase, o4, World.putObj_heap_same hb3, _, ho4.symm, hT.mono (ex1.le.trans ex3.le), hps, has, hbd, rfl, ?_⟩
          cases jump <;> rfl)
        refine ⟨⟨ex1.le.trans ex3.le, ?_, ?_, fun {k} hk hw => ?_, fun {k c} hk hw ho => ?_, fun {k} hk => ?_, fun {c} hc h => ?_⟩, g5⟩
        · have := ex1.size; have := ex3.size; simp at *; omega
        · have := ex1.len; have := ex3.len; simp at *; omega
        · have hkl : l ≠ k := fun e => hw (by simp [e])
          rw [List.getElem?_set_ne hkl, ex3.same hk hw, ex1.same hk hw, List.getElem?_set_ne hkl]
        · have hkl : l ≠ k := fun e => hw (by simp [e])
          have ho' : owns E (H.set l .dead) k c := by unfold owns at ho ⊢; rwa [List.getElem?_set_ne hkl]
          have hcb : c ≠ b := fun e => by subst e; exact hfree k ho'
          have ho1 := ho'.step ex1.le (ex1.same hk hw)
          rw [put_oth _ hcb, ex3.keep hk hw ho1, put_oth _ hcb, ex1.keep hk hw ho']
        · rw [ex3.old (Nat.lt_of_lt_of_le (by simpa using hk) ex1.len), ex1.old (by simpa using hk)]
        · have hcb : c ≠ b := fun e => by subst e; exact h l hown
          have h0 : ∀ k, ¬ owns E (H.set l .dead) k c := fun k ho => h k (kill k c ho).1
          obtain ⟨u1, u2, u3⟩ := ex1.stay hc h0
          obtain ⟨v1, v2, v3⟩ := ex3.stay (by rw [hsz1]; exact Nat.lt_of_lt_of_le hc ex1.size) u2
          refine ⟨by rw [put_oth _ hcb, v1, put_oth _ hcb, u1], fun k ho => ?_, fun o => (v3 o).trans (u3 o)⟩
          rcases own5 k c ho with ho | ⟨_, e⟩
          · exact v2 k ho
          · exact hcb e
      cases hv with
      | normal =>
        cases rx
        obtain ⟨f1, f2, f3⟩ := fin none true .normal
        exact ⟨_, _, f1, f2, f3⟩
      | ret =>
        cases rx
        obtain ⟨f1, f2, f3⟩ := fin (some .ret) false .ret
        exact ⟨_, _, f1, f2, f3⟩
      | exit i =>
        cases rx
        obtain ⟨f1, f2, f3⟩ := fin (some (.exit i)) false (.exit i)
        exact ⟨_, _, f1, f2, f3⟩
  · have hkl : l ≠ k := fun e => hm (by simp [e])
    have hm' : k ∉ W2 ++ W3 := fun h => hm (List.mem_cons_of_mem _ h)
    rw [List.getElem?_set_ne hkl, hk12.2 k (by simpa using hk) hm', List.getElem?_set_ne hkl]

/-- A row in which yield is called. -/
theorem yield_region {P : Program} {id k : Nat} {ops : Array Oper} {T T1 T' : List AV} {H H1 H2 H' : AHeap} {W1 W2 W3 : List Nat} {o : Oper} {c : Call} {f : Operand} {l : Nat} {v : Bool} (hnd : noDefer ops = true)
    (pre : RunA P ops (List.range k) T H T1 H1 W1) (hk1 : Keeps H H1 W1) (ho : ops[k]? = some o) (hw : wantedA ops T1 o = some true) (hop : o.op = .call c) (hcal : c.callee = .value f) (hf : opdA T1 f = .yfn l)
    (hr : Rounds1 P l (c.args.toList.map (opdA T1)) H1 v H2 W2) (post : RunA P ops ((List.range (ops.size - (k + 1))).map (k + 1 + ·)) (putA T1 o.dst (.sc (.bool v))) H2 T' H' W3) (hk3 : Keeps H2 H' W3) :
    CodeOk P (.region id ops false) T H .normal T' H' (W1 ++ (W2 ++ W3)) := by
  refine ⟨fun n0 W hn hW E w0 w a D hn hg ht hd => (wpIn_wide (n := 0)).1 (wpIn_region ?_), hk1.trans (hr.2.trans hk3)⟩
  have hkl : k < ops.size := (Array.getElem?_eq_some_iff.1 ho).1
  have e : List.range ops.size = List.range k ++ (k :: (List.range (ops.size - (k + 1))).map (k + 1 + ·)) := by
    have e1 : ops.size = k + (ops.size - (k + 1) + 1) := by omega
    rw [e1, List.range_add, List.range_succ_eq_map]
    simp only [List.map_cons, List.map_map, Nat.add_zero]
    congr 2
    have e2 : k + (k + (ops.size - (k + 1) + 1) - (k + 1) + 1) - (k + 1) = ops.size - (k + 1) := by omega
    have e3 : k + (ops.size - (k + 1) + 1) - (k + 1) = ops.size - (k + 1) := by omega
    rw [e3]
    refine List.map_congr_left (fun a _ => ?_)
    simp only [Function.comp]
    omega
  rw [e]
  refine pre.soundIn open_wide (n := 0) hnd _ hn hg ht (fun E1 a1 w1 ex1 g1 t1 d1 => ?_)
  simp only [wpOpsIn, ho, wanted_eq t1 hw, if_true]
  refine ⟨fun f _ => trivial, ?_⟩
  rw [Oper.semAt_eq _ _ _ (noDefer_get hnd ho)]
  have hrel := opd_rel t1 f
  rw [hf] at hrel
  generalize hv : a1.eval f = u at hrel
  cases hrel with
  | yfn l b hφ =>
    have hargs : RelL E1 (c.args.toList.map (opdA T1)) (c.args.map a1.eval) := rel_list c.args (fun y hy => opd_rel t1 y)
    obtain ⟨fn, tmps, as, bd, hy, hround⟩ := hr.1 E1 w0 w1 _ b g1 hargs hφ
    have hrun : (execOp a1.eval o).run P w1 = .ok (.round b fn tmps as bd) w1 := by
      simp only [execOp, hop, resolve, hcal, hv, Deferred.ofValue, pure_bind, Sem.run_pure, Sem.run_bind, Result.andThen_ok, invoke]
      have e2 : (#[] : Array Value) ++ c.args.map a1.eval = c.args.map a1.eval := by simp
      rw [e2]
      exact hy
    rw [hrun, Oper.uponIn_round]
    refine ⟨fun hs => by simp [Fence.wide] at hs, hround.mono ?_⟩
    rintro e w2 ⟨rfl, E2, ex2, g2⟩
    have hn1 : n0 ≤ H1.length := Nat.le_trans hn hk1.1
    have hn2 : n0 ≤ H2.length := Nat.le_trans hn1 hr.2.1
    have := post.soundIn open_wide (n := 0) hnd (Q := PostA n0 W (fun y T2 H2 => y = .normal ∧ T2 = T' ∧ H2 = H') E H w0 w D) [] (n0 := n0) (E := E2) (w0 := w0) (w := w2) (a := a1.put o.dst (.bool v)) hn2 g2 (put_rel (t1.mono ex2.le) o.dst (.sc _ rfl)) (fun E3 a3 w3 ex3 g3 t3 d3 => ?_)
    · rwa [List.append_nil] at this
    · refine ⟨E3, _, T', H', ⟨rfl, rfl, rfl⟩, .normal, ?_, g3, t3, d3.trans ((put_defers' _ _ _).trans (d1.trans hd))⟩
      refine (ex1.weaken (Nat.le_refl _) (fun l hl hm => hW l (List.mem_append_left _ hm) hl)).trans ((ex2.weaken hn1 (fun l hl hm => hW l (List.mem_append_right _ (List.mem_append_left _ hm)) hl)).trans (ex3.weaken (Nat.le_refl _) (fun l hl hm => hW l (List.mem_append_right _ (List.mem_append_right _ hm)) hl)))

theorem yield_code {P : Program} {call : CallT} {si : SiteO} (hc : CallTOk P call) (hsi : SiteOk P si) {id k : Nat} {ops : Array Oper} {T T1 T' : List AV} {H H1 H2 H' : AHeap} {L1 L3 : Log} {W2 : List Nat} {o : Oper} {c : Call} {f : Operand} {l : Nat} {v : Bool} (hnd : noDefer ops = true)
    (h1 : (evRT P call si ops (ops.toList.take k) none T H).sel = some (T1, H1, L1)) (ho : ops[k]? = some o) (hw : wantedA ops T1 o = some true) (hop : o.op = .call c) (hcal : c.callee = .value f) (hf : opdA T1 f = .yfn l)
    (hr : Rounds1 P l (c.args.toList.map (opdA T1)) H1 v H2 W2) (h3 : (evRT P call si ops (ops.toList.drop (k + 1)) none (putA T1 o.dst (.sc (.bool v))) H2).sel = some (T', H', L3)) :
    CodeOk P (.region id ops false) T H .normal T' H' (wrs L1 ++ (W2 ++ wrs L3)) := by
  have hkl : k < ops.size := (Array.getElem?_eq_some_iff.1 ho).1
  obtain ⟨c1, k1⟩ := evRT_chain hc hsi (ops.toList.take k) 0 none T H _ _ _ (fun j q hq => by
    rw [List.getElem?_take] at hq
    split at hq
    · simpa using hq
    · cases hq) h1
  obtain ⟨c3, k3⟩ := evRT_chain hc hsi (ops.toList.drop (k + 1)) (k + 1) none _ H2 _ _ _ (fun j q hq => by
    rw [List.getElem?_drop] at hq
    simpa using hq) h3
  have e1 : (List.range (ops.toList.take k).length).map (0 + ·) = List.range k := by
    have : (ops.toList.take k).length = k := by simp; omega
    rw [this]; simp
  have e3 : (ops.toList.drop (k + 1)).length = ops.size - (k + 1) := by simp
  rw [e1] at c1
  rw [e3] at c3
  exact yield_region hnd c1.run k1 ho hw hop hcal hf hr c3.run k3

/-! ### Such a row, evaluated -/
def leftOf : AExit → Option (Option Code × Bool)
  | .normal => some (none, true)
  | .ret => some (some .ret, false)
  | .exit i => some (some (.exit i), false)
  | _ => none

theorem leftOf_ok {x : AExit} {st : Option Code} {v : Bool} (h : leftOf x = some (st, v)) : Left x st v := by
  cases x <;> simp only [leftOf, Option.some.injEq, Prod.mk.injEq, reduceCtorEq] at h
  · obtain ⟨rfl, rfl⟩ := h; exact .normal
  · obtain ⟨rfl, rfl⟩ := h; exact .exit _
  · obtain ⟨rfl, rfl⟩ := h; exact .ret

def roundT (P : Program) (call : CallT) (n l : Nat) (xs : List AV) (H : AHeap) : Tree (Bool × AHeap × List Nat) :=
  match H[l]? with
  | some (.mark (.loop T ps as bd none)) => if (decide (xs.length = ps.size) && plainR as && plainR bd) = true then
      (evCTb P call noLoop (fun _ _ _ => .bad) n as (setAll T ps.toList xs) (H.set l .dead)).bind fun a => match a.1 with
        | .normal => (evCTb P call noLoop (fun _ _ _ => .bad) n bd a.2.1 a.2.2.1).bind fun b => match leftOf b.1, b.2.2.1[l]? with
          | some (st, v), some .dead => .leaf (v, b.2.2.1.set l (.mark (.loop T ps as bd st)), l :: (a.2.2.2 ++ b.2.2.2))
          | _, _ => .bad
        | _ => .bad
    else .bad
  | _ => .bad

theorem roundT_ok {P : Program} (hm : P.follows .mixedOrders = true) {call : CallT} (hc : CallTOk P call) {n l : Nat} {xs : List AV} {H H' : AHeap} {v : Bool} {W : List Nat} (h : (roundT P call n l xs H).sel = some (v, H', W)) : Rounds1 P l xs H v H' W := by
  unfold roundT at h
  split at h
  · rename_i T ps as bd hl
    split at h
    · rename_i hk
      simp only [Bool.and_eq_true, decide_eq_true_eq] at hk
      obtain ⟨⟨y, T2, H2, W2⟩, h1, h⟩ := sel_bind_some h
      have ok1 := evCTb_okR hm hc n as hk.1.2 _ _ _ _ _ _ h1
      split at h
      · rename_i hy
        simp only at hy
        subst hy
        obtain ⟨⟨z, T3, H3, W3⟩, h2, h⟩ := sel_bind_some h
        have ok2 := evCTb_okR hm hc n bd hk.2 _ _ _ _ _ _ h2
        split at h
        · rename_i st v' hlf hd
          have := Tree.sel_leaf h
          simp only [Prod.mk.injEq] at this
          obtain ⟨rfl, rfl, rfl⟩ := this
          exact round_ok hl hk.1.1 ok1 ok2 hd (leftOf_ok hlf)
        · exact (Tree.sel_bad h).elim
      · exact (Tree.sel_bad h).elim
    · exact (Tree.sel_bad h).elim
  · exact (Tree.sel_bad h).elim

/-- The callee of a call, if it is yield. -/
def yfnOf (o : Oper) (T : List AV) : Option (Nat × List AV) :=
  match o.op with
  | .call c => match c.callee with
    | .value f => match opdA T f with
      | .yfn l => some (l, c.args.toList.map (opdA T))
      | _ => none
    | _ => none
  | _ => none

def evY (P : Program) (call : CallT) (n k : Nat) (ops : Array Oper) (T : List AV) (H : AHeap) : Tree OutE :=
  if noDefer ops = true then
    (evRT P call (fun _ _ _ _ => none) ops (ops.toList.take k) none T H).bind fun q => match ops[k]? with
      | some o => match wantedA ops q.1 o, yfnOf o q.1 with
        | some true, some (l, xs) => (roundT P call n l xs q.2.1).bind fun r =>
          (evRT P call (fun _ _ _ _ => none) ops (ops.toList.drop (k + 1)) none (putA q.1 o.dst (.sc (.bool r.1))) r.2.1).bind fun p => .leaf (.normal, p.1, p.2.1, wrs q.2.2 ++ (r.2.2 ++ wrs p.2.2))
        | _, _ => .bad
      | none => .bad
  else .bad

theorem evY_ok {P : Program} (hm : P.follows .mixedOrders = true) {call : CallT} (hc : CallTOk P call) {id n k : Nat} {ops : Array Oper} {T T' : List AV} {H H' : AHeap} {x : AExit} {W : List Nat} (h : (evY P call n k ops T H).sel = some (x, T', H', W)) : CodeOk P (.region id ops false) T H x T' H' W := by
  unfold evY at h
  split at h
  · rename_i hnd
    obtain ⟨⟨T1, H1, L1⟩, h1, h⟩ := sel_bind_some h
    split at h
    · rename_i o ho
      split at h
      · rename_i l xs hw hy
        obtain ⟨⟨v, H2, W2⟩, h2, h⟩ := sel_bind_some h
        obtain ⟨⟨T3, H3, L3⟩, h3, h⟩ := sel_bind_some h
        have := Tree.sel_leaf h
        simp only [Prod.mk.injEq] at this
        obtain ⟨rfl, rfl, rfl, rfl⟩ := this
        unfold yfnOf at hy
        split at hy
        · rename_i c hop
          split at hy
          · rename_i f hcal
            split at hy
            · rename_i l' hf
              simp only [Option.some.injEq, Prod.mk.injEq] at hy
              obtain ⟨rfl, rfl⟩ := hy
              exact yield_code hc noSite_ok hnd h1 ho hw hop hcal hf (roundT_ok hm hc h2) h3
            · cases hy
          · cases hy
        · cases hy
      · exact (Tree.sel_bad h).elim
    · exact (Tree.sel_bad h).elim
  · exact (Tree.sel_bad h).elim

/-- What is told of one run, yield's row among it. -/
noncomputable def toldY (P : Program) (call : CallT) (n : Nat) (ys : List (Nat × Nat)) (ls : List ToldL) (cs : List ToldC) : LoopO :=
  { told P ls cs with reg := fun id ops T H => match ys.find? (·.1 == id) with
    | some (_, k) => some (evY P call n k ops T H)
    | none => none }

theorem toldY_ok {P : Program} (hm : P.follows .mixedOrders = true) {call : CallT} (hc : CallTOk P call) {n : Nat} {ys : List (Nat × Nat)} {ls : List ToldL} {cs : List ToldC} : LoopsOk P (toldY P call n ys ls cs) := by
  refine ⟨(told_ok (ls := ls) (cs := cs)).loop, (told_ok (ls := ls) (cs := cs)).site, fun id ops T H t x T' H' Wr h hr => ?_⟩
  unfold toldY at h
  simp only at h
  split at h
  · cases h; exact evY_ok hm hc hr
  · cases h
end Go.Proofs.YtiipaliigpkfhaaGreat.Ab
