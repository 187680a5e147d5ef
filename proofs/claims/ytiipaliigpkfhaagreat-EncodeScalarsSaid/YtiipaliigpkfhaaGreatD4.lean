/- Part 22: the calls that were deferred; whole functions. -/
import Derived.Test.YtiipaliigpkfhaaGreatD3
set_option linter.unusedVariables false
set_option linter.unusedSimpArgs false
namespace Go.Proofs.YtiipaliigpkfhaaGreat.Ab
open Go Go.RowKit

/-- Operations in text order, in a deferred frame. -/
theorem RunA.soundS {P : Program} {ops : Array Oper} {Q : Exit → Act → List Frame → World → Prop} {cs : List Frame} {is : List Nat} {T T' : List AV} {H H' : AHeap} {W : List Nat} (h : RunA P ops is T H T' H' W) :
    ∀ {n0 : Nat} {E : Env} {w0 w : World} {a : Act}, n0 ≤ H.length → Good E H w0 w → RelT E T a.tmps →
      (∀ (E' : Env) (a' : Act) (w' : World), Ext n0 (· ∈ W) E H w E' H' w' → Good E' H' w0 w' → RelT E' T' a'.tmps → a'.defers = a.defers → Q .normal a' cs w') →
      wpOpsS P ops Q is a cs w := by
  induction h with
  | nil T H =>
    intro n0 E w0 w a hn hg ht hk
    exact hk E a w (.refl _ _ _ _ _) hg ht rfl
  | @skip i rest o T T' H H' W ho hw hr ih =>
    intro n0 E w0 w a hn hg ht hk
    simp only [wpOpsS, ho, wanted_eq ht hw, if_false, Bool.false_eq_true]
    refine ih hn hg (put_rel ht o.dst (skip_rel _)) (fun E' a' w' he hg' ht' hd => ?_)
    exact hk E' a' w' he hg' ht' (hd.trans (put_defers' _ _ _))
  | @step i rest o x T T' H H1 H' W1 W ho hw hs hr ih =>
    intro n0 E w0 w a hn hg ht hk
    simp only [wpOpsS, ho, wanted_eq ht hw, if_true]
    have hop := hs E w0 w a.eval hg (ht.o o)
    have key : o.upon P a (fun a' w' => wpOpsS P ops Q rest a' cs w') (fun e a' w' => Q e a' cs w') ((execOp a.eval o).run P w) := by
      refine OpR.wp hop ?_
      rintro v w' ⟨E', he, hg', hv⟩
      refine ih (Nat.le_trans hn he.len) hg' (put_rel (ht.mono he.le) o.dst hv) (fun E2 a2 w2 he2 hg2 ht2 hd => ?_)
      refine hk E2 a2 w2 ?_ hg2 ht2 (hd.trans (put_defers' _ _ _))
      exact (he.weaken hn (fun l _ hl => List.mem_append_left _ hl)).trans (he2.weaken (Nat.le_refl _) (fun l _ hl => List.mem_append_right _ hl))
    split
    · rename_i w' hrun
      unfold OpR at hop
      rw [hrun] at hop
      exact hop.elim
    · exact key

/-- A deferred closure, called where nothing panics: it asks for a panic first, and there is none. -/
def evQ (P : Program) (call : CallE) (n : Nat) (g : FuncId) (args : List AV) (H : AHeap) : Ev (AHeap × List Nat) :=
  match P.funcs[g]? with
  | none => .bad [9100, g]
  | some fn => match fn.body with
    | some (.seq (.region id ops false) rest) => match ops.toList with
      | o :: r => match o.guard, o.op with
        | none, .call { callee := .builtin .recover, .. } =>
          match evR P call ops r none (putA (args ++ List.replicate (fn.ntmps - args.length) .any) o.dst (.sc .nilIface)) H with
          | .ok (T1, H1, L) => match evC P call n rest T1 H1 with
            | .ok (.normal, T2, H2, W) => match resultC P H2 fn T2 with
              | some _ => .ok (H2, wrs L ++ W)
              | none => .bad [9103, g]
            | .ok _ => .bad [9104, g]
            | .bad tr => .bad (10001 :: g :: tr)
          | .bad tr => .bad (10002 :: g :: tr)
        | _, _ => .bad [9105, g]
      | [] => .bad [9106, g]
    | _ => .bad [9107, g]

theorem evQ_ok {P : Program} {call : CallE} (hm : P.follows .mixedOrders = true) (hc : CallOk P call) {n : Nat} {g : FuncId} {args : List AV} {H H' : AHeap} {Wr : List Nat} (h : evQ P call n g args H = .ok (H', Wr)) :
    (∀ (E : Env) (w0 w : World) (vs : Array Value), Good E H w0 w → RelL E args vs → CallsD P g vs .returning w fun e u' w' => u' = .returning ∧ (∃ v, e = .returned v) ∧ ∃ E', Ext H.length (· ∈ Wr) E H w E' H' w' ∧ Good E' H' w0 w') ∧ Keeps H H' Wr := by
  unfold evQ at h
  split at h
  · cases h
  · rename_i fn hfn
    split at h
    · rename_i id ops rest hbody
      split at h
      · rename_i o r hops
        split at h
        · rename_i cargs cats hgd hop
          split at h
          · rename_i T1 H1 L hr
            split at h
            · rename_i T2 H2 W hcode
              split at h
              · rename_i x hres
                cases h
                have hsz : ops = (o :: r).toArray := by apply Array.ext'; simpa using hops
                have hidx : ∀ (j : Nat) (q : Oper), r[j]? = some q → ops[1 + j]? = some q := fun j q hq => by
                  rw [hsz]; simpa [Nat.add_comm] using hq
                obtain ⟨hch, hk1⟩ := evR_chain hc r 1 _ _ _ _ _ _ hidx hr
                have ok2 := evC_ok hm hc n rest _ _ _ _ _ _ hcode
                refine ⟨fun E w0 w vs hg hrel => ?_, hk1.trans ok2.2⟩
                refine callsD_of_wpS hfn hbody (fun c₀ cs hmode => ?_)
                have ht0 : RelT E (args ++ List.replicate (fn.ntmps - args.length) .any) (vs ++ Array.replicate (fn.ntmps - vs.size) undef) := by
                  have h0 := relL_append hrel (k := (⟨by simp [hrel.1], fun i x hx => by
                    have := List.mem_of_getElem? hx
                    rw [List.mem_replicate] at this
                    rw [this.2]; exact .any _⟩ : RelL E (List.replicate (fn.ntmps - args.length) .any) (Array.replicate (fn.ntmps - vs.size) undef)))
                  exact h0
                refine wpS_seq (wpS_region ?_)
                have hrange : List.range ops.size = 0 :: (List.range r.length).map (1 + ·) := by
                  rw [hsz]
                  simp only [List.size_toArray, List.length_cons, List.range_succ_eq_map]
                  congr 1
                  refine List.map_congr_left (fun a _ => ?_)
                  omega
                rw [hrange]
                have ho0 : ops[0]? = some o := by rw [hsz]; rfl
                have w1 : ∀ t : Array Value, Region.wanted o (yielded ops t) = true := fun a => by unfold Region.wanted; rw [hgd]
                simp only [wpOpsS, ho0, w1, if_true]
                have hrun : ∀ a : Act, (execOp a.eval o).run P w = .ok .recover w := fun a => by
                  simp only [execOp, hop, resolve, pure_bind, invoke, builtin, Sem.run_pure]
                rw [hrun]
                have hrec : recoverD (c₀ :: cs) = none := by simp [recoverD, hmode]
                simp only [hrec]
                refine hch.run.soundS (Nat.le_refl _) hg (put_rel (a := { tmps := vs ++ Array.replicate (fn.ntmps - vs.size) undef, defers := [] }) ht0 o.dst (.sc _ rfl)) (fun E1 a1 w1 ex1 g1 t1 d1 => ?_)
                have d1' : a1.defers = [] := by rw [d1, put_defers']
                refine wpS_of_wp (wp_mono (ok2.1 H.length (· ∈ W) hk1.1 (fun l hl _ => hl) E1 w0 w1 a1 [] hk1.1 g1 t1 d1') ?_)
                rintro e a2 w2 ⟨E2, y, T3, H3, ⟨rfl, rfl, rfl⟩, rx, ex2, g2, t2, d2⟩
                cases rx
                obtain ⟨v, hv, _⟩ := resultC_run g2 t2 hres
                refine ⟨d2, .returning, by rw [← hmode], v, hv, rfl, ⟨v, rfl⟩, E2, ?_, g2⟩
                exact (ex1.weaken (Nat.le_refl _) (fun l _ hl => List.mem_append_left _ hl)).trans (ex2.weaken (Nat.le_refl _) (fun l _ hl => List.mem_append_right _ hl))
              · cases h
            · cases h
            · cases h
          · cases h
        · cases h
      · cases h
    · cases h

/-- On the way out, where nothing panics. -/
def LeavesM (P : Program) (fn : Func) (tmps : Array Value) (R : Ending → World → Prop) : List Deferred → World → Prop
  | [], w => ∃ v, (results fn tmps).run P w = .ok v w ∧ R (.returned v) w
  | d :: ds, w => (∃ r w', d.target = .collected r ∧ (Instr.takeDeferred r).run P w = .ok [] w' ∧ LeavesM P fn tmps R ds w') ∨
      (∃ fv cap f args, d.target = .fn fv cap ∧ (invoke d.target d.args).run P w = .ok (.enter f args) w ∧ CallsD P f args .returning w fun e u' w' => u' = .returning ∧ (∃ v, e = .returned v) ∧ LeavesM P fn tmps R ds w')

theorem leavesM_steps {P : Program} {fn : Func} {tmps : Array Value} {R : Ending → World → Prop} : ∀ (ds : List Deferred) (w : World) (fr : Frame) (cs : List Frame), fr.mode = .returning → fr.defers = ds → fr.tmps = tmps → P.funcs[fr.fn]? = some fn → fr.kind = .normal → LeavesM P fn tmps R ds w →
    ∃ e w' fr', R e w' ∧ Comes P (lone fr cs w) (lone fr' cs w') e ∧ fr'.fn = fr.fn ∧ fr'.leaving P w' e := by
  intro ds
  induction ds with
  | nil =>
    intro w fr cs hu hd ht hf hk h
    obtain ⟨v, hr, hR⟩ := h
    exact ⟨.returned v, w, fr, hR, Steps.refl P _, rfl, hu, hd, hk, fn, hf, ht ▸ hr⟩
  | cons d ds ih =>
    intro w fr cs hu hd ht hf hk h
    rcases h with ⟨r, w', htar, htake, hrest⟩ | ⟨fv, cap, f, args, htar, hinv, hcall⟩
    · have h1 := step_collected (cs := cs) (by rw [hu]; simp) hd htar htake
      obtain ⟨e', w'', fr', hR', hs', hfn', hl'⟩ := ih w' { fr with defers := [] ++ ds } cs hu rfl ht hf hk hrest
      exact ⟨e', w'', fr', hR', Comes.of_steps (.one h1) hs', hfn', hl'⟩
    · have h1 := step_defer (cs := cs) (by rw [hu]; simp) hd htar hinv
      obtain ⟨e, u', w', frX, ⟨rfl, ⟨v, rfl⟩, hR⟩, hsteps, hkX, hgo⟩ := hcall { fr with defers := ds } cs hu
      have h2 := step_going_returned (c := { { fr with defers := ds } with mode := .returning }) (cs := cs) hkX hgo
      obtain ⟨e', w'', fr', hR', hs', hfn', hl'⟩ := ih w' { { { fr with defers := ds } with mode := .returning } with mode := settle .returning } cs rfl rfl ht hf hk hR
      exact ⟨e', w'', fr', hR', Comes.of_steps (.head h1 (Steps.trans hsteps (.one h2))) hs', hfn', hl'⟩

theorem calls_of_wp_marks {P : Program} {f : FuncId} {fn : Func} {c : Code} {args : Array Value} {w : World} {R : Ending → World → Prop} (hf : P.funcs[f]? = some fn) (hb : fn.body = some c)
    (h : c.wp P (fun e a w => (e = .normal ∨ e = .ret) ∧ LeavesM P fn a.tmps R a.defers w) { tmps := args ++ Array.replicate (fn.ntmps - args.size) undef, defers := [] } w) : Calls P f args w R := by
  intro cs
  let b : Frame := { (default : Frame) with fn := f, kind := .normal }
  have henter : Frame.enter P f args .normal =
      b.at { tmps := args ++ Array.replicate (fn.ntmps - args.size) undef, defers := [] } [.code c] := by
    simp [Frame.enter, Frame.at, hf, hb, b]
  obtain ⟨e, a', w', ⟨he, hq⟩, harr⟩ := h b [] cs
  rw [← henter] at harr
  rcases he with rfl | rfl
  · obtain ⟨e', w'', fr', hR, hs, hfn, hl⟩ := leavesM_steps a'.defers w' { b.at a' [] with mode := .returning } cs rfl rfl rfl hf rfl hq
    exact ⟨e', w'', fr', hR, Comes.of_steps (Steps.trans harr (.one step_end)) hs, hfn, hl⟩
  · obtain ⟨todo, hs₀⟩ := harr
    obtain ⟨e', w'', fr', hR, hs, hfn, hl⟩ := leavesM_steps a'.defers w' { b.at a' todo with mode := .returning } cs rfl rfl rfl hf rfl hq
    exact ⟨e', w'', fr', hR, Comes.of_steps hs₀ hs, hfn, hl⟩

def evQs (P : Program) (call : CallE) (n : Nat) : DefE → AHeap → Ev (AHeap × List Nat)
  | [], H => .ok (H, [])
  | .call g args :: D, H => match evQ P call n g args H with
    | .ok (H1, W1) => match evQs P call n D H1 with
      | .ok (H2, W2) => .ok (H2, W1 ++ W2)
      | .bad tr => .bad tr
    | .bad tr => .bad tr
  | .mark l :: D, H => match H[l]? with
    | some (.mark true) => match evQs P call n D (H.set l .dead) with
      | .ok (H2, W2) => .ok (H2, [l] ++ W2)
      | .bad tr => .bad tr
    | _ => .bad [9200]

theorem evQs_ok {P : Program} {call : CallE} (hm : P.follows .mixedOrders = true) (hc : CallOk P call) {n : Nat} {fn : Func} {tmps : Array Value} {R : Ending → World → Prop} : ∀ (D : DefE) (H H' : AHeap) (Wr : List Nat), evQs P call n D H = .ok (H', Wr) →
    Keeps H H' Wr ∧ ∀ (E : Env) (w0 w : World) (ds : List Deferred), Good E H w0 w → RelDs P E D ds →
      (∀ (E' : Env) (w' : World), Ext H.length (· ∈ Wr) E H w E' H' w' → Good E' H' w0 w' → ∃ v, (results fn tmps).run P w' = .ok v w' ∧ R (.returned v) w') → LeavesM P fn tmps R ds w
  | [], H, H', Wr, h => by
    cases h
    refine ⟨.refl _ _, fun E w0 w ds hg hd hk => ?_⟩
    cases hd
    exact hk E w (.refl _ _ _ _ _) hg
  | .call g args :: D, H, H', Wr, h => by
    unfold evQs at h
    split at h
    · rename_i H1 W1 h1
      split at h
      · rename_i H2 W2 h2
        cases h
        obtain ⟨hq, k1⟩ := evQ_ok hm hc h1
        obtain ⟨k2, hrest⟩ := evQs_ok hm hc D _ _ _ h2
        refine ⟨k1.trans k2, fun E w0 w ds hg hd hk => ?_⟩
        cases hd with
        | @cons q d D ds hd hds =>
          obtain ⟨⟨fn', c', hf', hn', hb'⟩, cap, vs, ht, rfl, hrel⟩ := hd
          obtain ⟨target, dargs⟩ := d
          simp only at ht
          subst ht
          refine .inr ⟨_, _, g, dargs ++ cap, rfl, ?_, ?_⟩
          · have h1 : fn'.name ≠ "runtime.NumGoroutine" := by simpa using hn'
            simp [invoke, callFunc, hf', h1, hb']
          · refine (hq E w0 w _ hg hrel).mono ?_
            rintro e u' w' ⟨rfl, ⟨v, rfl⟩, E1, ex1, g1⟩
            refine ⟨rfl, ⟨v, rfl⟩, hrest E1 w0 w' ds g1 (hds.mono ex1.le) (fun E2 w2 ex2 g2 => hk E2 w2 ?_ g2)⟩
            exact (ex1.weaken (Nat.le_refl _) (fun l _ hl => List.mem_append_left _ hl)).trans (ex2.weaken k1.1 (fun l _ hl => List.mem_append_right _ hl))
      · cases h
    · cases h
  | .mark l :: D, H, H', Wr, h => by
    unfold evQs at h
    split at h
    · rename_i hl
      split at h
      · rename_i H2 W2 h2
        cases h
        obtain ⟨k2, hrest⟩ := evQs_ok hm hc D _ _ _ h2
        refine ⟨(Keeps.set H l .dead).trans k2, fun E w0 w ds hg hd hk => ?_⟩
        cases hd with
        | @cons q d D ds hd hds =>
          obtain ⟨b, ht, hφ⟩ := hd
          obtain ⟨_, ob, h3, h4⟩ := hg.obj hl b hφ
          simp only [markIs, if_true] at h4
          subst h4
          refine .inl ⟨b, { w with heap := w.heap.setIfInBounds b (.deferred none) }, ht, ?_, ?_⟩
          · have hget : (getObj b).run P w = .ok (.deferred (some [])) w := by simp [getObj, Sem.run, h3]
            have hset : ∀ o', (setObj b o').run P w = .ok () { w with heap := w.heap.setIfInBounds b o' } := fun o' => by simp [setObj, Sem.run, h3]
            simp only [Instr.takeDeferred, Sem.run_bind, hget, Result.andThen_ok, hset, Sem.run_pure]
          · refine hrest E w0 _ ds (hg.kill hl hφ _) hds (fun E2 w2 ex2 g2 => hk E2 w2 ?_ g2)
            exact (kill_ext (n0 := H.length) (W := (· ∈ [l] ++ W2)) hg (fun _ => by simp) hl hφ).trans (ex2.weaken (by simp) (fun z _ hz => List.mem_append_right _ hz))
      · cases h
    · cases h

/-- A whole function. -/
def evG (P : Program) (orc : FuncId → List AV → AHeap → Option (AV × AHeap × List Nat)) : Nat → CallE
  | 0, g, _, _ => .bad [8000, g]
  | n + 1, g, args, H => match orc g args H with
    | some r => .ok r
    | none => match P.funcs[g]? with
      | none => .bad [9000, g]
      | some fn => match fn.body with
        | none => .bad [9001, g]
        | some c => if (fn.name == "runtime.NumGoroutine") = true then .bad [9002, g] else
          match evB P (evG P orc n) n c (args ++ List.replicate (fn.ntmps - args.length) .any) H [] with
          | .bad tr => .bad (10000 :: g :: tr)
          | .ok (x, T, H1, W1, D) => match x with
            | .normal | .ret => match evQs P (evG P orc n) n D H1 with
              | .bad tr => .bad (10003 :: g :: tr)
              | .ok (H2, W2) => match resultC P H2 fn T with
                | some x => .ok (x, H2, below H.length (W1 ++ W2))
                | none => .bad [9003, g]
            | _ => .bad [9004, g]

theorem below_mem {n l : Nat} {W : List Nat} (hl : l < n) (h : l ∈ W) : l ∈ below n W := by
  unfold below
  rw [List.mem_filter]
  exact ⟨h, by simpa using hl⟩

theorem evG_ok {P : Program} (hm : P.follows .mixedOrders = true) {orc : FuncId → List AV → AHeap → Option (AV × AHeap × List Nat)} (horc : ∀ g args H x H1 Wr, orc g args H = some (x, H1, Wr) → Ctr P g args x H H1 Wr) : ∀ n, CallOk P (evG P orc n)
  | 0 => fun g args H x H1 Wr h => by cases h
  | n + 1 => fun g args H x H' Wr h => by
    have hc := evG_ok hm horc n
    unfold evG at h
    split at h
    · rename_i r hr
      cases h
      exact horc _ _ _ _ _ _ hr
    · split at h
      · cases h
      · rename_i fn hfn
        split at h
        · cases h
        · rename_i c hbody
          split at h
          · cases h
          · rename_i hname
            split at h
            · cases h
            · rename_i y T H1 W1 D hb
              have hbo := evB_ok hm hc n c _ _ _ _ _ _ _ _ hb
              have fin : (match evQs P (evG P orc n) n D H1 with
                  | .bad tr => (.bad (10003 :: g :: tr) : Ev (AV × AHeap × List Nat))
                  | .ok (H2, W2) => match resultC P H2 fn T with
                    | some x => .ok (x, H2, below H.length (W1 ++ W2))
                    | none => .bad [9003, g]) = .ok (x, H', Wr) → (y = .normal ∨ y = .ret) → Ctr P g args x H H' Wr := by
                intro h hy
                split at h
                · cases h
                · rename_i H2 W2 hq
                  split at h
                  · rename_i z hz
                    cases h
                    have hk := (evQs_ok (fn := fn) (tmps := #[]) (R := fun _ _ => True) hm hc D _ _ _ hq).1
                    have hkeep := hbo.2.trans hk
                    refine ⟨⟨fn, c, hfn, by simpa using hname, hbody⟩, ?_, hkeep.1, fun l hl hn => hkeep.2 l hl (fun hm => hn (below_mem hl hm))⟩
                    intro E w0 w vs hg hr
                    refine calls_of_wp_marks hfn hbody ?_
                    have ht : RelT E (args ++ List.replicate (fn.ntmps - args.length) .any) (vs ++ Array.replicate (fn.ntmps - vs.size) undef) := by
                      have h0 := relL_append hr (k := (⟨by simp [hr.1], fun i x hx => by
                        have := List.mem_of_getElem? hx
                        rw [List.mem_replicate] at this
                        rw [this.2]; exact .any _⟩ : RelL E (List.replicate (fn.ntmps - args.length) .any) (Array.replicate (fn.ntmps - vs.size) undef)))
                      exact h0
                    refine wp_mono (hbo.1 E w0 w ⟨_, []⟩ hg ht .nil) ?_
                    rintro e a1 w1 ⟨E1, rx, ex1, g1, t1, d1⟩
                    have hleave : LeavesM P fn a1.tmps (fun e w' => ∃ E', RelE E' (.ret x) e ∧ Ext H.length (· ∈ below H.length (W1 ++ W2)) E H w E' H' w' ∧ Good E' H' w0 w') a1.defers w1 := by
                      refine (evQs_ok (fn := fn) (tmps := a1.tmps) hm hc D _ _ _ hq).2 E1 w0 w1 _ g1 d1 (fun E2 w2 ex2 g2 => ?_)
                      obtain ⟨v, hv, hrel⟩ := resultC_run g2 (t1.mono ex2.le) hz
                      refine ⟨v, hv, E2, .ret _ _ hrel, ?_, g2⟩
                      exact (ex1.weaken (Nat.le_refl _) (fun l hl hm => below_mem hl (List.mem_append_left _ hm))).trans (ex2.weaken hbo.2.1 (fun l hl hm => below_mem hl (List.mem_append_right _ hm)))
                    rcases hy with rfl | rfl
                    · cases rx; exact ⟨.inl rfl, hleave⟩
                    · cases rx; exact ⟨.inr rfl, hleave⟩
                  · cases h
              split at h
              · exact fin h (.inl rfl)
              · exact fin h (.inr rfl)
              · cases h
end Go.Proofs.YtiipaliigpkfhaaGreat.Ab
