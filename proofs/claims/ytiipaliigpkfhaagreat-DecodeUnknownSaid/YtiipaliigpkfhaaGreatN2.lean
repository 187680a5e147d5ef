/- Part N2: panics: a call that panics, a function that panics, a deferred closure that recovers. -/
import Derived.Test.YtiipaliigpkfhaaGreatN1
set_option linter.unusedVariables false
set_option linter.unusedSimpArgs false
set_option maxRecDepth 100000
namespace Go.Proofs.YtiipaliigpkfhaaGreat.Ab
open Go Go.RowKit

/-- A call that panics. -/
def CtrPan (P : Program) (g : FuncId) (args : List AV) (x : AV) (H H1 : AHeap) (Wr : List Nat) : Prop :=
  HasBody P g ∧ CallsA P g args (.pan x) H H1 (· ∈ Wr) ∧ Keeps H H1 Wr

theorem CtrPan.forget {P : Program} {f : FuncId} {args : List AV} {x : AV} {H H1 : AHeap} (h : CtrPan P f args x H H1 []) (hl : LF x) : CtrPan P f args x H H [] := by
  refine ⟨h.1, fun E w0 w vs hg hr => ?_, .refl _ _⟩
  refine (h.2.1 E w0 w vs hg hr).mono ?_
  rintro e w' ⟨E', re, ex, g⟩
  cases re with
  | pan x v hv =>
    obtain ⟨E2, ex2, g2, hv2⟩ := forget_state hg (ex.weaken (Nat.le_refl _) (fun l _ h => by simp at h)) g hv hl
    exact ⟨E2, .pan _ _ hv2, ex2.weaken (Nat.le_refl _) (fun _ _ h => h.elim), g2⟩

/-- From the empty heap to any. -/
theorem CtrPan.any {P : Program} {g : FuncId} {args : List AV} {x : AV} {H1 : AHeap} (h : CtrPan P g args x [] H1 []) (hx : LF x) (hx0 : lbA 0 x = true) (hargs : lbAs 0 args = true) (H : AHeap) : CtrPan P g args x H H [] := by
  have h := h.forget hx
  refine ⟨h.1, fun E w0 w vs hg hr => ?_, .refl _ _⟩
  have hg' : Good E ([] ++ H) w0 w := hg
  have hr0 : RelL (E.cut 0) args vs := ⟨hr.1, fun i x hx => (hr.2 i x hx).cut (lbAs_mem hargs x (List.mem_of_getElem? hx))⟩
  have hg0 := good_part hg' (fun o ho => by simp at ho)
  refine (h.2.1 (E.cut 0) w0 w vs hg0 hr0).mono ?_
  rintro e w' ⟨E', re, ex, g⟩
  cases re with
  | pan x v hv =>
    obtain ⟨E2, ex2, g2, conv⟩ := merge_state (n0 := ([] ++ H : AHeap).length) (W := (· ∈ ([] : List Nat))) hg' (ex.weaken (Nat.le_refl _) (fun l _ hl => by simp at hl)) g (fun o ho => by simp at ho)
    exact ⟨E2, .pan _ _ (conv _ _ hv hx0), ex2, g2⟩

theorem callee_run {P : Program} {o : Oper} {T : List AV} {g : FuncId} {args : List AV} (hg : calleeA o T = some (g, args)) (hb : HasBody P g) {E : Env} {ρ : Operand → Value} (w : World) (ht : RelO E T o ρ) : ∃ vs, (execOp ρ o).run P w = .ok (.enter g vs) w ∧ RelL E args vs := by
  unfold calleeA at hg
  split at hg
  · rename_i c ho
    split at hg
    · rename_i f hc
      split at hg
      · rename_i g' first caps hf
        simp only [Option.some.injEq, Prod.mk.injEq] at hg
        obtain ⟨rfl, rfl⟩ := hg
        have hr := ht f (by simp [ho, Op.operands, Call.operands, hc])
        rw [hf] at hr
        generalize hv : ρ f = v at hr
        cases hr with
        | fn _ _ _ us vs h1 h2 k1 k2 =>
          obtain ⟨fn, cd, hfn, hname, hbody⟩ := hb
          refine ⟨us ++ c.args.map ρ ++ vs, ?_, relL_append (relL_append ⟨h1, k1⟩ (rel_list c.args (fun y hy => ht y (by simp [ho, Op.operands, Call.operands, hy])))) ⟨h2, k2⟩⟩
          simp only [execOp, ho, resolve, hc, hv, Deferred.ofValue, pure_bind, invoke]
          have h1 : fn.name ≠ "runtime.NumGoroutine" := by simpa using hname
          simp [callFunc, hfn, h1, hbody]
      · cases hg
    · cases hg
  · cases hg

/-- An operation that panics. -/
def OpPan (P : Program) (o : Oper) (T : List AV) (H : AHeap) (x : AV) (H' : AHeap) (Wr : List Nat) : Prop :=
  ∀ (E : Env) (w0 w : World) (ρ : Operand → Value), Good E H w0 w → RelO E T o ρ →
    (∃ f vs, (execOp ρ o).run P w = .ok (.enter f vs) w ∧ Calls P f vs w (fun e w' => ∃ E', RelE E' (.pan x) e ∧ Ext H.length (· ∈ Wr) E H w E' H' w' ∧ Good E' H' w0 w')) ∨
    (∃ v, (execOp ρ o).run P w = .halt (.panic v) w ∧ Rel E x v ∧ H' = H)

theorem opPan_call {P : Program} {o : Oper} {T : List AV} {H H1 : AHeap} {x : AV} {g : FuncId} {args : List AV} {Wr : List Nat} (hg : calleeA o T = some (g, args)) (hc : CtrPan P g args x H H1 Wr) : OpPan P o T H x H1 Wr := by
  intro E w0 w ρ hgd ht
  obtain ⟨vs, hr, hl⟩ := callee_run hg hc.1 w ht
  exact .inl ⟨g, vs, hr, hc.2.1 E w0 w vs hgd hl⟩

theorem opPan_panic {P : Program} {o : Oper} {T : List AV} {H : AHeap} {y : Operand} {t : TypeId} {x : AV} (ho : o.op = .panic y) (hy : opdA T y = .ifc t x) : OpPan P o T H (.ifc t x) H [] := by
  intro E w0 w ρ hgd ht
  have hr := ht y (by simp [ho, Op.operands])
  rw [hy] at hr
  generalize hv : ρ y = v at hr
  cases hr with
  | ifc t x v k =>
    refine .inr ⟨.iface t v, ?_, .ifc t x v k, rfl⟩
    simp only [execOp, ho, hv, Instr.panic]
    rfl

theorem pan_region {P : Program} {id k : Nat} {ops : Array Oper} {T T1 : List AV} {H H1 H2 : AHeap} {W1 W2 : List Nat} {o : Oper} {x : AV} (hnd : noDefer ops = true)
    (pre : RunA P ops (List.range k) T H T1 H1 W1) (hk1 : Keeps H H1 W1) (ho : ops[k]? = some o) (hw : wantedA ops T1 o = some true) (hp : OpPan P o T1 H1 x H2 W2) (hk2 : Keeps H1 H2 W2) :
    CodeOk P (.region id ops false) T H (.panic x) T1 H2 (W1 ++ W2) := by
  refine ⟨fun n0 W hn hW E w0 w a D hn hg ht hd => (wpIn_wide (n := 0)).1 (wpIn_region ?_), hk1.trans hk2⟩
  have hkl : k < ops.size := (Array.getElem?_eq_some_iff.1 ho).1
  have e : List.range ops.size = List.range k ++ (k :: (List.range (ops.size - (k + 1))).map (k + 1 + ·)) := by
    have e1 : ops.size = k + (ops.size - (k + 1) + 1) := by omega
    rw [e1, List.range_add, List.range_succ_eq_map]
    simp only [List.map_cons, List.map_map, Nat.add_zero]
    congr 2
    have e2 : k + (k + (ops.size - (k + 1) + 1) - (k + 1) + 1) - (k + 1) = ops.size - (k + 1) := by omega
    have e3 : k + (ops.size - (k + 1) + 1) - (k + 1) = ops.size - (k + 1) := by omega
    rw [e3]
    refine List.map_congr_left (fun a _ => ?_)
    simp only [Function.comp]
    omega
  rw [e]
  refine pre.soundIn open_wide (n := 0) hnd _ hn hg ht (fun E1 a1 w1 ex1 g1 t1 d1 => ?_)
  simp only [wpOpsIn, ho, wanted_eq t1 hw, if_true]
  refine ⟨fun f _ => trivial, ?_⟩
  rw [Oper.semAt_eq _ _ _ (noDefer_get hnd ho)]
  have hn1 : n0 ≤ H1.length := Nat.le_trans hn hk1.1
  rcases hp E1 w0 w1 a1.eval g1 (t1.o o) with ⟨f, vs, hr, hc⟩ | ⟨v, hr, hv, rfl⟩
  · rw [hr, Oper.uponIn_enter]
    refine ⟨fun hs => by simp [Fence.wide] at hs, callsIn_wide.2 (hc.mono ?_)⟩
    rintro e w2 ⟨E2, re, ex2, g2⟩
    cases re with
    | pan x v hv =>
      refine ⟨E2, .panic x, T1, H2, ⟨rfl, rfl, rfl⟩, .panic _ _ hv, ?_, g2, t1.mono ex2.le, d1.trans hd⟩
      exact (ex1.weaken (Nat.le_refl _) (fun l hl hm => hW l (List.mem_append_left _ hm) hl)).trans (ex2.weaken hn1 (fun l hl hm => hW l (List.mem_append_right _ hm) hl))
  · rw [hr]
    exact ⟨E1, .panic x, T1, _, ⟨rfl, rfl, rfl⟩, .panic _ _ hv, ex1.weaken (Nat.le_refl _) (fun l hl hm => hW l (List.mem_append_left _ hm) hl), g1, t1, d1.trans hd⟩

/-! ### Such a row, evaluated -/
def panOp (o : Oper) (T : List AV) : Option AV :=
  match o.op with
  | .panic y => match opdA T y with
    | .ifc t v => some (.ifc t v)
    | _ => none
  | _ => none

theorem panOp_ok {P : Program} {o : Oper} {T : List AV} {H : AHeap} {x : AV} (h : panOp o T = some x) : OpPan P o T H x H [] := by
  unfold panOp at h
  split at h
  · rename_i y ho
    split at h
    · rename_i t v hy
      cases h
      exact opPan_panic ho hy
    · cases h
  · cases h

open Classical in
noncomputable def askPan (P : Program) (g : FuncId) (args : List AV) (H : AHeap) (x : AV) : Bool := decide (CtrPan P g args x H H [])
theorem askPan_of {P : Program} {g : FuncId} {args : List AV} {H : AHeap} {x : AV} (h : CtrPan P g args x H H []) : askPan P g args H x = true := by simp only [askPan, decide_eq_true_eq]; exact h

noncomputable def evP (P : Program) (call : CallT) (si : SiteO) (k : Nat) (x : AV) (ops : Array Oper) (T : List AV) (H : AHeap) : Tree OutE :=
  if noDefer ops = true then
    (evRT P call si ops (ops.toList.take k) none T H).bind fun q => match ops[k]? with
      | some o => match wantedA ops q.1 o with
        | some true => match panOp o q.1 with
          | some y => .leaf (.panic y, q.1, q.2.1, wrs q.2.2)
          | none => match calleeA o q.1 with
            | some (g, args) => .br (askPan P g args q.2.1 x) (.leaf (.panic x, q.1, q.2.1, wrs q.2.2)) .bad
            | none => .bad
        | _ => .bad
      | none => .bad
  else .bad

theorem evP_ok {P : Program} {call : CallT} {si : SiteO} (hc : CallTOk P call) (hsi : SiteOk P si) {id k : Nat} {x : AV} {ops : Array Oper} {T T' : List AV} {H H' : AHeap} {y : AExit} {W : List Nat} (h : (evP P call si k x ops T H).sel = some (y, T', H', W)) : CodeOk P (.region id ops false) T H y T' H' W := by
  unfold evP at h
  split at h
  · rename_i hnd
    obtain ⟨⟨T1, H1, L1⟩, h1, h⟩ := sel_bind_some h
    split at h
    · rename_i o ho
      have hkl : k < ops.size := (Array.getElem?_eq_some_iff.1 ho).1
      obtain ⟨c1, k1⟩ := evRT_chain hc hsi (ops.toList.take k) 0 none T H _ _ _ (fun j q hq => by
        rw [List.getElem?_take] at hq
        split at hq
        · simpa using hq
        · cases hq) h1
      have e1 : (List.range (ops.toList.take k).length).map (0 + ·) = List.range k := by
        have : (ops.toList.take k).length = k := by simp; omega
        rw [this]; simp
      rw [e1] at c1
      split at h
      · rename_i hw
        split at h
        · rename_i z hz
          have := Tree.sel_leaf h
          simp only [Prod.mk.injEq] at this
          obtain ⟨rfl, rfl, rfl, rfl⟩ := this
          have := pan_region (id := id) hnd c1.run k1 ho hw (panOp_ok hz) (.refl _ _)
          rwa [List.append_nil] at this
        · split at h
          · rename_i g args hg
            rcases Tree.sel_br h with ⟨hb, h⟩ | ⟨_, h⟩
            · have := Tree.sel_leaf h
              simp only [Prod.mk.injEq] at this
              obtain ⟨rfl, rfl, rfl, rfl⟩ := this
              simp only [askPan, decide_eq_true_eq] at hb
              have := pan_region (id := id) hnd c1.run k1 ho hw (opPan_call hg hb) (.refl _ _)
              rwa [List.append_nil] at this
            · exact (Tree.sel_bad h).elim
          · exact (Tree.sel_bad h).elim
      · exact (Tree.sel_bad h).elim
    · exact (Tree.sel_bad h).elim
  · exact (Tree.sel_bad h).elim

/-- Rows that panic: the row, the operation, what is thrown. -/
noncomputable def toldP (P : Program) (call : CallT) (ps : List (Nat × Nat × AV)) (lo : LoopO) : LoopO :=
  { lo with reg := fun id ops T H => match ps.find? (·.1 == id) with
    | some (_, k, x) => some (evP P call lo.site k x ops T H)
    | none => lo.reg id ops T H }

theorem toldP_ok {P : Program} {call : CallT} (hc : CallTOk P call) {ps : List (Nat × Nat × AV)} {lo : LoopO} (hl : LoopsOk P lo) : LoopsOk P (toldP P call ps lo) := by
  refine ⟨hl.loop, hl.site, fun id ops T H t x T' H' Wr h hr => ?_⟩
  unfold toldP at h
  simp only at h
  split at h
  · cases h; exact evP_ok hc hl.site hr
  · exact hl.reg _ _ _ _ _ _ _ _ _ h hr

/-! ### A function that panics -/
theorem ctrPan_of_code {P : Program} {g : FuncId} {fn : Func} {c : Code} {args : List AV} {T : List AV} {x : AV} {H H1 : AHeap} {W : List Nat} (hfn : P.funcs[g]? = some fn) (hname : (fn.name == "runtime.NumGoroutine") = false) (hbody : fn.body = some c)
    (hok : CodeOk P c (startA fn args) H (.panic x) T H1 W) : CtrPan P g args x H H1 (below H.length W) := by
  refine ⟨⟨fn, c, hfn, hname, hbody⟩, ?_, hok.2.1, fun l hl hn => hok.2.2 l hl (fun hm => hn (below_mem hl hm))⟩
  intro E w0 w vs hg hr
  refine calls_of_wp hfn hbody ?_
  have ht : RelT E (startA fn args) (vs ++ Array.replicate (fn.ntmps - vs.size) undef) := by
    have h0 := relL_append hr (k := (⟨by simp [hr.1], fun i x hx => by
      have := List.mem_of_getElem? hx
      rw [List.mem_replicate] at this
      rw [this.2]; exact .any _⟩ : RelL E (List.replicate (fn.ntmps - args.length) .any) (Array.replicate (fn.ntmps - vs.size) undef)))
    exact h0
  refine wp_mono (hok.1 H.length (· ∈ below H.length W) (Nat.le_refl _) (fun l hl hn => below_mem hn hl) E w0 w ⟨_, []⟩ [] (Nat.le_refl _) hg ht rfl) ?_
  rintro e a' w' ⟨E', ax, T', H2, ⟨rfl, rfl, rfl⟩, r, ex, g', t, d⟩
  cases r with
  | panic x v hv => exact ⟨d, E', .pan _ _ hv, ex, g'⟩

/-! ### Bodies that defer, bodies that range over a function -/
/-- What is told of a range over a function: what the function answers, what lies there behind it. -/
structure ToldR where
  x : AV
  H : AHeap
  W : List Nat

open Classical in
noncomputable def askFn (P : Program) (g : FuncId) (args : List AV) (H : AHeap) (x : AV) (H1 : AHeap) (W : List Nat) : Bool := decide (Ctr P g args x H H1 W)
theorem askFn_of {P : Program} {g : FuncId} {args : List AV} {x : AV} {H H1 : AHeap} {W : List Nat} (h : Ctr P g args x H H1 W) : askFn P g args H x H1 W = true := by simp only [askFn, decide_eq_true_eq]; exact h

def jumpOf : Option Code → Option AExit
  | none => some .normal
  | some .ret => some .ret
  | some (.exit i) => some (.exit i)
  | _ => none
theorem jumpOf_ok {st : Option Code} {y : AExit} (h : jumpOf st = some y) : Jump st y := by
  unfold jumpOf at h
  split at h
  · cases h; exact .none
  · cases h; exact .ret
  · cases h; exact .exit _
  · cases h

noncomputable def rangeT (P : Program) (e : ToldR) (g : Operand) (ps : Array Tmp) (assign body : Code) (T : List AV) (H : AHeap) (D : DefE) : Tree OutB :=
  match opdA T g with
  | .fn (.func gf) first caps => .br (askFn P gf (first ++ [.yfn (H.length + 1)] ++ caps) ((H ++ [.mark .defs]) ++ [.mark (.loop T ps assign body none)]) e.x e.H e.W)
    (match e.H[H.length + 1]? with
    | some (.mark (.loop _ _ _ _ st)) => match jumpOf st with
      | some y => .leaf (y, T, e.H.set (H.length + 1) .dead, e.W ++ [H.length + 1], .mark H.length :: D)
      | none => .bad
    | _ => .bad) .bad
  | _ => .bad

theorem rangeT_ok {P : Program} {e : ToldR} {g : Operand} {ps : Array Tmp} {assign body : Code} {T T' : List AV} {H H' : AHeap} {D D' : DefE} {x : AExit} {Wr : List Nat} (h : (rangeT P e g ps assign body T H D).sel = some (x, T', H', Wr, D')) : BodyOk P (.rangeFunc g ps assign body) T H D x T' H' Wr D' := by
  unfold rangeT at h
  split at h
  · rename_i gf first caps hgo
    rcases Tree.sel_br h with ⟨hb, h⟩ | ⟨_, h⟩
    · simp only [askFn, decide_eq_true_eq] at hb
      split at h
      · rename_i h1
        split at h
        · rename_i y hj
          have := Tree.sel_leaf h
          simp only [Prod.mk.injEq] at this
          obtain ⟨rfl, rfl, rfl, rfl, rfl⟩ := this
          exact range_ok hgo hb h1 (jumpOf_ok hj)
        · exact (Tree.sel_bad h).elim
      · exact (Tree.sel_bad h).elim
    · exact (Tree.sel_bad h).elim
  · exact (Tree.sel_bad h).elim

noncomputable def evBT (P : Program) (call : CallT) (lo : LoopO) (rt : ToldR) (n : Nat) : Code → List AV → AHeap → DefE → Tree OutB
  | .rangeFunc g ps assign body, T, H, D => rangeT P rt g ps assign body T H D
  | .seq a b, T, H, D => (evBT P call lo rt n a T H D).bind fun r => match r.1 with
    | .normal => (evBT P call lo rt n b r.2.1 r.2.2.1 r.2.2.2.2).bind fun q => .leaf (q.1, q.2.1, q.2.2.1, r.2.2.2.1 ++ q.2.2.2.1, q.2.2.2.2)
    | _ => .leaf r
  | .block i c, T, H, D => (evBT P call lo rt n c T H D).bind fun r => .leaf (unblock i r.1, r.2)
  | .cond c a b, T, H, D => askB (askC T c) T fun T => match opdA T c with
    | .sc (.bool t) => .br t (evBT P call lo rt n a T H D) (evBT P call lo rt n b T H D)
    | _ => .bad
  | .region id ops false, T, H, D => match deferA P ops T H with
    | some (T', g, args) => .leaf (.normal, T', H, [], .call g args :: D)
    | none => (evCT P call lo n (.region id ops false) T H).bind fun r => .leaf (r.1, r.2.1, r.2.2.1, r.2.2.2, D)
  | c, T, H, D => (evCT P call lo n c T H).bind fun r => .leaf (r.1, r.2.1, r.2.2.1, r.2.2.2, D)

theorem evBT_ok {P : Program} (hm : P.follows .mixedOrders = true) {call : CallT} (hc : CallTOk P call) {lo : LoopO} (hl : LoopsOk P lo) (rt : ToldR) (n : Nat) : ∀ (c : Code) (T : List AV) (H : AHeap) (D : DefE) (x : AExit) (T' : List AV) (H' : AHeap) (Wr : List Nat) (D' : DefE), (evBT P call lo rt n c T H D).sel = some (x, T', H', Wr, D') → BodyOk P c T H D x T' H' Wr D' := by
  have other : ∀ (c : Code) (T : List AV) (H : AHeap) (D : DefE) (x : AExit) (T' : List AV) (H' : AHeap) (Wr : List Nat) (D' : DefE), ((evCT P call lo n c T H).bind fun r => (.leaf (r.1, r.2.1, r.2.2.1, r.2.2.2, D) : Tree OutB)).sel = some (x, T', H', Wr, D') → BodyOk P c T H D x T' H' Wr D' := by
    intro c T H D x T' H' Wr D' h
    obtain ⟨⟨y, T1, H1, W1⟩, h1, h⟩ := sel_bind_some h
    have := Tree.sel_leaf h
    simp only [Prod.mk.injEq] at this
    obtain ⟨rfl, rfl, rfl, rfl, rfl⟩ := this
    exact .of (evCT_ok hm hc hl n c _ _ _ _ _ _ h1) _
  intro c
  induction c with
  | seq a b iha ihb =>
    intro T H D x T' H' Wr D' h
    unfold evBT at h
    obtain ⟨⟨y, T1, H1, W1, D1⟩, h1, h⟩ := sel_bind_some h
    have oth : y ≠ .normal → (x, T', H', Wr, D') = (y, T1, H1, W1, D1) → BodyOk P (.seq a b) T H D x T' H' Wr D' := by
      intro hne e
      cases e
      exact (iha _ _ _ _ _ _ _ _ h1).seqX hne
    cases y with
    | normal =>
      obtain ⟨⟨z, T2, H2, W2, D2⟩, h2, h⟩ := sel_bind_some h
      have := Tree.sel_leaf h
      simp only [Prod.mk.injEq] at this
      obtain ⟨rfl, rfl, rfl, rfl, rfl⟩ := this
      exact (iha _ _ _ _ _ _ _ _ h1).seq (ihb _ _ _ _ _ _ _ _ h2)
    | exit i => exact oth (by simp) (Tree.sel_leaf h)
    | goto i => exact oth (by simp) (Tree.sel_leaf h)
    | ret => exact oth (by simp) (Tree.sel_leaf h)
    | panic v => exact oth (by simp) (Tree.sel_leaf h)
  | block i c ih =>
    intro T H D x T' H' Wr D' h
    unfold evBT at h
    obtain ⟨⟨y, T1, H1, W1, D1⟩, h1, h⟩ := sel_bind_some h
    have := Tree.sel_leaf h
    simp only [Prod.mk.injEq] at this
    obtain ⟨rfl, rfl, rfl, rfl, rfl⟩ := this
    exact (ih _ _ _ _ _ _ _ _ h1).block
  | cond c a b iha ihb =>
    intro T H D x T' H' Wr D' h
    unfold evBT at h
    have h := askB_sel (fun b d => askC_get) h
    split at h
    · rename_i t ht
      rcases Tree.sel_br h with ⟨rfl, h⟩ | ⟨rfl, h⟩
      · exact .cond ht (iha _ _ _ _ _ _ _ _ h)
      · exact .cond ht (ihb _ _ _ _ _ _ _ _ h)
    · exact (Tree.sel_bad h).elim
  | region id ops draw =>
    intro T H D x T' H' Wr D' h
    cases draw with
    | true => exact other _ _ _ _ _ _ _ _ _ h
    | false =>
      unfold evBT at h
      split at h
      · rename_i T2 g args hq
        have := Tree.sel_leaf h
        simp only [Prod.mk.injEq] at this
        obtain ⟨rfl, rfl, rfl, rfl, rfl⟩ := this
        exact deferA_ok hq
      · exact other _ _ _ _ _ _ _ _ _ h
  | rangeFunc g ps assign body _ _ =>
    intro T H D x T' H' Wr D' h
    unfold evBT at h
    exact rangeT_ok h
  | _ => intro T H D x T' H' Wr D' h; exact other _ _ _ _ _ _ _ _ _ h

/-- A function whose body defers or ranges over a function. -/
noncomputable def fnBT (P : Program) (call : CallT) (lo : LoopO) (rt : ToldR) (callE : CallE) (n : Nat) (g : FuncId) (args : List AV) (H : AHeap) : Tree (AV × AHeap × List Nat) :=
  match P.funcs[g]? with
  | none => .bad
  | some fn => match fn.body with
    | none => .bad
    | some c => if (fn.name == "runtime.NumGoroutine") = true then .bad else
      (evBT P call lo rt n c (startA fn args) H []).bind fun r => match r.1 with
        | .normal | .ret => match evQs P callE n r.2.2.2.2 r.2.2.1 with
          | .ok (H2, W2) => match resultC P H2 fn r.2.1 with
            | some x => .leaf (x, H2, below H.length (r.2.2.2.1 ++ W2))
            | none => .bad
          | .bad _ => .bad
        | _ => .bad

theorem fnBT_ok {P : Program} (hm : P.follows .mixedOrders = true) {call : CallT} (hc : CallTOk P call) {lo : LoopO} (hl : LoopsOk P lo) {rt : ToldR} {callE : CallE} (hce : CallOk P callE) {n : Nat} {g : FuncId} {args : List AV} {H : AHeap} {r : AV × AHeap × List Nat} (h : (fnBT P call lo rt callE n g args H).sel = some r) : Ctr P g args r.1 H r.2.1 r.2.2 := by
  unfold fnBT at h
  split at h
  · exact (Tree.sel_bad h).elim
  · rename_i fn hfn
    split at h
    · exact (Tree.sel_bad h).elim
    · rename_i c hbody
      split at h
      · exact (Tree.sel_bad h).elim
      · rename_i hname
        obtain ⟨⟨y, T, H1, W1, D⟩, h1, h⟩ := sel_bind_some h
        have hbo := evBT_ok hm hc hl rt n c _ _ _ _ _ _ _ _ h1
        have fin : (y = .normal ∨ y = .ret) → (match evQs P callE n D H1 with
            | .ok (H2, W2) => match resultC P H2 fn T with
              | some x => (.leaf (x, H2, below H.length (W1 ++ W2)) : Tree (AV × AHeap × List Nat))
              | none => .bad
            | .bad _ => .bad).sel = some r → Ctr P g args r.1 H r.2.1 r.2.2 := by
          intro hy h
          split at h
          · rename_i H2 W2 hq
            split at h
            · rename_i x hz
              rw [Tree.sel_leaf h]
              exact ctr_of_body hm hce hfn (by simpa using hname) hbody hbo hy hq hz
            · exact (Tree.sel_bad h).elim
          · exact (Tree.sel_bad h).elim
        cases y with
        | normal => exact fin (.inl rfl) h
        | ret => exact fin (.inr rfl) h
        | exit i => exact (Tree.sel_bad h).elim
        | goto i => exact (Tree.sel_bad h).elim
        | panic v => exact (Tree.sel_bad h).elim

/-- A deferred closure, called where something panics: it asks for the panic first. -/
def evQP (P : Program) (call : CallE) (n : Nat) (g : FuncId) (args : List AV) (H : AHeap) (x : AV) : Ev (AHeap × List Nat) :=
  match P.funcs[g]? with
  | none => .bad [9100, g]
  | some fn => match fn.body with
    | some (.seq (.region id ops false) rest) => match ops.toList with
      | o :: r => match o.guard, o.op with
        | none, .call { callee := .builtin .recover, .. } =>
          match evR P call ops r none (putA (args ++ List.replicate (fn.ntmps - args.length) .any) o.dst x) H with
          | .ok (T1, H1, L) => match evC P call n rest T1 H1 with
            | .ok (.normal, T2, H2, W) => match resultC P H2 fn T2 with
              | some _ => .ok (H2, wrs L ++ W)
              | none => .bad [9103, g]
            | .ok _ => .bad [9104, g]
            | .bad tr => .bad (10001 :: g :: tr)
          | .bad tr => .bad (10002 :: g :: tr)
        | _, _ => .bad [9105, g]
      | [] => .bad [9106, g]
    | _ => .bad [9107, g]

theorem evQP_ok {P : Program} {call : CallE} (hm : P.follows .mixedOrders = true) (hc : CallOk P call) {n : Nat} {g : FuncId} {args : List AV} {x : AV} {H H' : AHeap} {Wr : List Nat} (h : evQP P call n g args H x = .ok (H', Wr)) :
    (∀ (E : Env) (w0 w : World) (vs : Array Value) (z : Value), Good E H w0 w → RelL E args vs → Rel E x z → CallsD P g vs (.panicking [{ v := z, recovered := false }]) w fun e u' w' => u' = .panicking [{ v := z, recovered := true }] ∧ (∃ v, e = .returned v) ∧ ∃ E', Ext H.length (· ∈ Wr) E H w E' H' w' ∧ Good E' H' w0 w') ∧ Keeps H H' Wr := by
  unfold evQP at h
  split at h
  · cases h
  · rename_i fn hfn
    split at h
    · rename_i id ops rest hbody
      split at h
      · rename_i o r hops
        split at h
        · rename_i cargs cats hgd hop
          split at h
          · rename_i T1 H1 L hr
            split at h
            · rename_i T2 H2 W hcode
              split at h
              · rename_i y hres
                cases h
                have hsz : ops = (o :: r).toArray := by apply Array.ext'; simpa using hops
                have hidx : ∀ (j : Nat) (q : Oper), r[j]? = some q → ops[1 + j]? = some q := fun j q hq => by
                  rw [hsz]; simpa [Nat.add_comm] using hq
                obtain ⟨hch, hk1⟩ := evR_chain hc r 1 _ _ _ _ _ _ hidx hr
                have ok2 := evC_ok hm hc n rest _ _ _ _ _ _ hcode
                refine ⟨fun E w0 w vs z hg hrel hz => ?_, hk1.trans ok2.2⟩
                refine callsD_of_wpS hfn hbody (fun c₀ cs hmode => ?_)
                have ht0 : RelT E (args ++ List.replicate (fn.ntmps - args.length) .any) (vs ++ Array.replicate (fn.ntmps - vs.size) undef) := by
                  have h0 := relL_append hrel (k := (⟨by simp [hrel.1], fun i x hx => by
                    have := List.mem_of_getElem? hx
                    rw [List.mem_replicate] at this
                    rw [this.2]; exact .any _⟩ : RelL E (List.replicate (fn.ntmps - args.length) .any) (Array.replicate (fn.ntmps - vs.size) undef)))
                  exact h0
                refine wpS_seq (wpS_region ?_)
                have hrange : List.range ops.size = 0 :: (List.range r.length).map (1 + ·) := by
                  rw [hsz]
                  simp only [List.size_toArray, List.length_cons, List.range_succ_eq_map]
                  congr 1
                  refine List.map_congr_left (fun a _ => ?_)
                  omega
                rw [hrange]
                have ho0 : ops[0]? = some o := by rw [hsz]; rfl
                have w1 : ∀ t : Array Value, Region.wanted o (yielded ops t) = true := fun a => by unfold Region.wanted; rw [hgd]
                simp only [wpOpsS, ho0, w1, if_true]
                have hrun : ∀ a : Act, (execOp a.eval o).run P w = .ok .recover w := fun a => by
                  simp only [execOp, hop, resolve, pure_bind, invoke, builtin, Sem.run_pure]
                rw [hrun]
                have hrec : recoverD (c₀ :: cs) = some (z, { c₀ with mode := .panicking [{ v := z, recovered := true }] } :: cs) := by simp [recoverD, hmode]
                simp only [hrec]
                refine hch.run.soundS (Nat.le_refl _) hg (put_rel (a := { tmps := vs ++ Array.replicate (fn.ntmps - vs.size) undef, defers := [] }) ht0 o.dst hz) (fun E1 a1 w1 ex1 g1 t1 d1 => ?_)
                have d1' : a1.defers = [] := by rw [d1, put_defers']
                refine wpS_of_wp (wp_mono (ok2.1 H.length (· ∈ W) hk1.1 (fun l hl _ => hl) E1 w0 w1 a1 [] hk1.1 g1 t1 d1') ?_)
                rintro e a2 w2 ⟨E2, y, T3, H3, ⟨rfl, rfl, rfl⟩, rx, ex2, g2, t2, d2⟩
                cases rx
                obtain ⟨v, hv, _⟩ := resultC_run g2 t2 hres
                refine ⟨d2, .panicking [{ v := z, recovered := true }], rfl, v, hv, rfl, ⟨v, rfl⟩, E2, ?_, g2⟩
                exact (ex1.weaken (Nat.le_refl _) (fun l _ hl => List.mem_append_left _ hl)).trans (ex2.weaken (Nat.le_refl _) (fun l _ hl => List.mem_append_right _ hl))
              · cases h
            · cases h
            · cases h
          · cases h
        · cases h
      · cases h
    · cases h

theorem ctr_of_bodyP {P : Program} (hm : P.follows .mixedOrders = true) {call : CallE} (hc : CallOk P call) {n : Nat} {g q : FuncId} {fn : Func} {c : Code} {args qargs : List AV} {T : List AV} {x y : AV} {H H1 H2 : AHeap} {W1 W2 : List Nat} (hfn : P.funcs[g]? = some fn) (hname : (fn.name == "runtime.NumGoroutine") = false) (hbody : fn.body = some c)
    (hbo : BodyOk P c (startA fn args) H [] (.panic x) T H1 W1 [.call q qargs]) (hq : evQP P call n q qargs H1 x = .ok (H2, W2)) (hz : resultC P H2 fn T = some y) : Ctr P g args y H H2 (below H.length (W1 ++ W2)) := by
  obtain ⟨hcall, hk⟩ := evQP_ok hm hc hq
  have hkeep := hbo.2.trans hk
  refine ⟨⟨fn, c, hfn, hname, hbody⟩, ?_, hkeep.1, fun l hl hn => hkeep.2 l hl (fun hm => hn (below_mem hl hm))⟩
  intro E w0 w vs hg hr
  refine calls_of_wp_defers hfn hbody ?_
  have ht : RelT E (startA fn args) (vs ++ Array.replicate (fn.ntmps - vs.size) undef) := by
    have h0 := relL_append hr (k := (⟨by simp [hr.1], fun i x hx => by
      have := List.mem_of_getElem? hx
      rw [List.mem_replicate] at this
      rw [this.2]; exact .any _⟩ : RelL E (List.replicate (fn.ntmps - args.length) .any) (Array.replicate (fn.ntmps - vs.size) undef)))
    exact h0
  refine wp_mono (hbo.1 E w0 w ⟨_, []⟩ hg ht .nil) ?_
  rintro e a1 w1 ⟨E1, rx, ex1, g1, t1, d1⟩
  cases rx with
  | panic x v hv =>
    generalize hds : a1.defers = ds at d1
    cases d1 with
    | @cons q' d D ds hd hds' =>
      cases hds'
      obtain ⟨⟨fn', c', hf', hn', hb'⟩, cap, vs', htar, rfl, hrel⟩ := hd
      obtain ⟨target, dargs⟩ := d
      simp only at htar
      subst htar
      show Leaves P fn a1.tmps _ a1.defers (.panicking [{ v := v, recovered := false }]) w1
      rw [hds]
      refine ⟨by simp, _, _, q, dargs ++ cap, rfl, ?_, ?_⟩
      · have h1 : fn'.name ≠ "runtime.NumGoroutine" := by simpa using hn'
        simp [invoke, callFunc, hf', h1, hb']
      · refine (hcall E1 w0 w1 _ v g1 hrel hv).mono ?_
        rintro e u' w2 ⟨rfl, ⟨u, rfl⟩, E2, ex2, g2⟩
        obtain ⟨r, hr2, hrel2⟩ := resultC_run g2 (t1.mono ex2.le) hz
        refine ⟨r, hr2, E2, .ret _ _ hrel2, ?_, g2⟩
        exact (ex1.weaken (Nat.le_refl _) (fun l hl hm => below_mem hl (List.mem_append_left _ hm))).trans (ex2.weaken hbo.2.1 (fun l hl hm => below_mem hl (List.mem_append_right _ hm)))
end Go.Proofs.YtiipaliigpkfhaaGreat.Ab
