/- Part 20: the evaluator is sound, rows and code. -/
import Derived.Test.YtiipaliigpkfhaaGreatD1
set_option linter.unusedVariables false
set_option linter.unusedSimpArgs false
namespace Go.Proofs.YtiipaliigpkfhaaGreat.Ab
open Go Go.RowKit

def CallOk (P : Program) (call : CallE) : Prop := ∀ (g : FuncId) (args : List AV) (H : AHeap) (x : AV) (H1 : AHeap) (Wr : List Nat), call g args H = .ok (x, H1, Wr) → Ctr P g args x H H1 Wr

theorem opA_callee {P : Program} {o : Oper} {T : List AV} {H H1 : AHeap} {x : AV} {g : FuncId} {args : List AV} {Wr : List Nat} (hg : calleeA o T = some (g, args)) (hc : Ctr P g args x H H1 Wr) : OpA P o T H x H1 Wr := by
  unfold calleeA at hg
  split at hg
  · rename_i c ho
    split at hg
    · rename_i f hf
      split at hg
      · rename_i g' first caps hop
        simp only [Option.some.injEq, Prod.mk.injEq] at hg
        obtain ⟨rfl, rfl⟩ := hg
        exact opA_call ho hf hop hc.1 hc.2.1 (fun l _ hl => hl)
      · cases hg
    · cases hg
  · cases hg

theorem Keeps.trans {H H1 H2 : AHeap} {W W1 : List Nat} (h : Keeps H H1 W) (k : Keeps H1 H2 W1) : Keeps H H2 (W ++ W1) :=
  ⟨Nat.le_trans h.1 k.1, fun l hl hm => by
    rw [List.mem_append, not_or] at hm
    rw [k.2 l (Nat.lt_of_lt_of_le hl h.1) hm.2, h.2 l hl hm.1]⟩

section
variable {P : Program} {call : CallE}

theorem evR_chain (hc : CallOk P call) {ops : Array Oper} : ∀ (r : List Oper) (k : Nat) (nx : Option Nat) (T : List AV) (H : AHeap) (T' : List AV) (H' : AHeap) (L : Log), (∀ (j : Nat) (o : Oper), r[j]? = some o → ops[k + j]? = some o) → evR P call ops r nx T H = .ok (T', H', L) →
    Chain P ops nx.isSome (entryObj P) ((List.range r.length).map (k + ·)) T H T' H' L ∧ Keeps H H' (wrs L)
  | [], k, nx, T, H, T', H', L, _, h => by
    simp only [evR, Ev.ok.injEq, Prod.mk.injEq] at h
    obtain ⟨rfl, rfl, rfl⟩ := h
    exact ⟨.nil T H, .refl _ _⟩
  | o :: r, k, nx, T, H, T', H', L, ho, h => by
    have ho0 : ops[k]? = some o := ho 0 o rfl
    have hor : ∀ (j : Nat) (q : Oper), r[j]? = some q → ops[k + 1 + j]? = some q := fun j q hq => by
      have := ho (j + 1) q (by simpa using hq)
      rw [show k + 1 + j = k + (j + 1) by omega]; exact this
    have hr : (List.range (o :: r).length).map (k + ·) = k :: (List.range r.length).map (k + 1 + ·) := by
      rw [List.length_cons, List.range_succ_eq_map]
      simp only [List.map_cons, List.map_map, Nat.add_zero]
      congr 1
      refine List.map_congr_left (fun a _ => ?_)
      simp only [Function.comp]
      omega
    rw [hr]
    unfold evR at h
    split at h
    · rename_i hw
      split at h
      · rename_i T2 H2 L2 hq
        cases h
        obtain ⟨h1, h2⟩ := evR_chain hc r (k + 1) _ _ _ _ _ _ hor hq
        rw [nextL_some] at h1
        exact ⟨.skip ho0 hw h1, by simpa [wrs, e0] using h2⟩
      · cases h
    · rename_i hw
      split at h
      · rename_i x H1 e hs
        split at h
        · rename_i T2 H2 L2 hq
          cases h
          obtain ⟨h1, h2⟩ := evR_chain hc r (k + 1) _ _ _ _ _ _ hor hq
          rw [nextL_some] at h1
          unfold step2 at hs
          split at hs
          · rename_i y rd hy
            cases hs
            obtain ⟨hf, hn⟩ := quietF_ok hy
            exact ⟨.float ho0 hw hf (fun e => by rw [hn] at e; cases e) h1, by simpa [wrs] using h2⟩
          · split at hs
            · rename_i q hst
              cases hs
              unfold step1 at hst
              split at hst
              · rename_i y hy
                cases hst
                exact ⟨.float ho0 hw (stepS_float hy) (fun _ => rfl) h1, by simpa [wrs] using h2⟩
              · split at hst
                · rename_i y H3 Wr hx
                  cases hst
                  exact ⟨.act (sf := none) ho0 hw (stepX_sound hx) (stepX_keeps hx) (fun l t k e => by cases e) h1, (stepX_keeps hx).trans h2⟩
                · cases hst
            · split at hs
              · rename_i y H3 Wr hm
                cases hs
                exact ⟨.act ho0 hw (stepM_sound hm).1 (stepM_sound hm).2 (stepM_soft hm) h1, (stepM_sound hm).2.trans h2⟩
              · split at hs
                · rename_i g args hg
                  split at hs
                  · rename_i y H3 Wr hcall
                    cases hs
                    have hctr := hc _ _ _ _ _ _ hcall
                    exact ⟨.act (sf := none) ho0 hw (opA_callee hg hctr) hctr.2.2 (fun l t k e => by cases e) h1, hctr.2.2.trans h2⟩
                  · cases hs
                · cases hs
        · cases h
      · cases h
    · cases h

theorem Keeps.unres {H H' res : AHeap} {W : List Nat} (h : Keeps (H ++ res) H' W) : Keeps H H' W :=
  ⟨by have := h.1; simp at this; omega, fun l hl hm => (h.2 l (by simp; omega) hm).trans (List.getElem?_append_left hl)⟩

/-- What the evaluator says of code. -/
def CodeOk (P : Program) (c : Code) (T : List AV) (H : AHeap) (x : AExit) (T' : List AV) (H' : AHeap) (Wr : List Nat) : Prop :=
  (∀ (n0 : Nat) (W : Nat → Prop), n0 ≤ H.length → (∀ l ∈ Wr, l < n0 → W l) → wpA P n0 W c (fun y T2 H2 => y = x ∧ T2 = T' ∧ H2 = H') T H) ∧ Keeps H H' Wr

theorem CodeOk.then {c : Code} {T T' : List AV} {H H' : AHeap} {n0 : Nat} {W : Nat → Prop} {Q : AExit → List AV → AHeap → Prop} {x : AExit} {W1 : List Nat} (h : CodeOk P c T H x T' H' W1) (hn : n0 ≤ H.length) (hw : ∀ l ∈ W1, l < n0 → W l) (k : Q x T' H') : wpA P n0 W c Q T H :=
  wpA_mono (h.1 n0 W hn hw) (fun y T2 H2 ⟨h1, h2, h3⟩ => by subst h1 h2 h3; exact k)

/-- From label to label, as it went. -/
inductive Passes (P : Program) (c : Code) (x : AExit) (T' : List AV) (H' : AHeap) : Nat → Code → List AV → AHeap → List Nat → Prop where
  | out {d : Code} {T : List AV} {H : AHeap} {W : List Nat} (k : Nat) (h : CodeOk P d T H x T' H' W) (hx : ∀ l, x ≠ .goto l) : Passes P c x T' H' (k + 1) d T H W
  | next {d rest : Code} {l : Nat} {T T1 : List AV} {H H1 : AHeap} {W W' : List Nat} {k : Nat} (h : CodeOk P d T H (.goto l) T1 H1 W) (hr : findLabel c l = some rest) (r : Passes P c x T' H' k rest T1 H1 W') : Passes P c x T' H' (k + 1) d T H (W ++ W')

theorem Passes.keeps {c : Code} {x : AExit} {T' : List AV} {H' : AHeap} {k : Nat} {d : Code} {T : List AV} {H : AHeap} {W : List Nat} (h : Passes P c x T' H' k d T H W) : Keeps H H' W := by
  induction h with
  | out k h hx => exact h.2
  | next h hr r ih => exact h.2.trans ih

theorem Passes.ok {c : Code} {x : AExit} {T' : List AV} {H' : AHeap} {k : Nat} {T : List AV} {H : AHeap} {Wr : List Nat} (h : Passes P c x T' H' k c T H Wr) : CodeOk P (.scope c) T H x T' H' Wr := by
  refine ⟨fun n0 W hn hW => ?_, h.keeps⟩
  refine wpA_scope (fun m d T2 H2 => ∃ W2, Passes P c x T' H' m d T2 H2 W2 ∧ (∀ l ∈ W2, l < n0 → W l) ∧ n0 ≤ H2.length) k ⟨Wr, h, hW, hn⟩ ?_
  rintro m d T2 H2 ⟨W2, hr, hW2, hn2⟩
  cases hr with
  | out k h hx =>
    refine h.then hn2 hW2 ?_
    cases x with
    | goto l => exact absurd rfl (hx l)
    | normal => exact ⟨rfl, rfl, rfl⟩
    | exit i => exact ⟨rfl, rfl, rfl⟩
    | ret => exact ⟨rfl, rfl, rfl⟩
    | panic y => exact ⟨rfl, rfl, rfl⟩
  | next h hr r =>
    refine h.then hn2 (fun l hl => hW2 l (List.mem_append_left _ hl)) ?_
    exact ⟨_, hr, _, Nat.lt_succ_self _, _, r, fun l hl => hW2 l (List.mem_append_right _ hl), Nat.le_trans hn2 h.2.1⟩

theorem iterE_ok {c : Code} {f : List AV → AHeap → Ev OutE} (hf : ∀ T H x T' H' Wr, f T H = .ok (x, T', H', Wr) → CodeOk P c T H x T' H' Wr) : ∀ (k : Nat) (T : List AV) (H : AHeap) (x : AExit) (T' : List AV) (H' : AHeap) (Wr : List Nat), iterE f k T H = .ok (x, T', H', Wr) → CodeOk P (.loop c) T H x T' H' Wr := by
  -- round by round, as the evaluator went
  have key : ∀ (k : Nat) (T : List AV) (H : AHeap) (x : AExit) (T' : List AV) (H' : AHeap) (Wr : List Nat), iterE f k T H = .ok (x, T', H', Wr) →
      Keeps H H' Wr ∧ ∀ (n0 : Nat) (W : Nat → Prop), n0 ≤ H.length → (∀ l ∈ Wr, l < n0 → W l) → ∃ I : Nat → List AV → AHeap → Prop, I k T H ∧ ∀ m T H, I m T H → m ≤ k ∧ wpA P n0 W c (AExit.then (fun T2 H2 => ∃ m', m' < m ∧ I m' T2 H2) (fun y T2 H2 => y = x ∧ T2 = T' ∧ H2 = H')) T H := by
    intro k
    induction k with
    | zero => intro T H x T' H' Wr h; cases h
    | succ k ih =>
      intro T H x T' H' Wr h
      unfold iterE at h
      split at h
      · rename_i T1 H1 W1 h1
        split at h
        · rename_i y T2 H2 W2 h2
          cases h
          obtain ⟨k1, i1⟩ := ih _ _ _ _ _ _ h2
          have ok1 := hf _ _ _ _ _ _ h1
          refine ⟨ok1.2.trans k1, fun n0 W hn hw => ?_⟩
          obtain ⟨I, hI, hstep⟩ := i1 n0 W (Nat.le_trans hn ok1.2.1) (fun l hl => hw l (List.mem_append_right _ hl))
          refine ⟨fun m T3 H3 => (m = k + 1 ∧ T3 = T ∧ H3 = H) ∨ I m T3 H3, .inl ⟨rfl, rfl, rfl⟩, ?_⟩
          rintro m T3 H3 (⟨rfl, rfl, rfl⟩ | hm)
          · refine ⟨Nat.le_refl _, ok1.then hn (fun l hl => hw l (List.mem_append_left _ hl)) ?_⟩
            exact ⟨k, Nat.lt_succ_self _, .inr hI⟩
          · obtain ⟨hle, hwp⟩ := hstep m T3 H3 hm
            refine ⟨Nat.le_succ_of_le hle, wpA_mono hwp ?_⟩
            intro z T4 H4 hz
            cases z with
            | normal => obtain ⟨m', hm', hi⟩ := hz; exact ⟨m', hm', .inr hi⟩
            | _ => exact hz
        · cases h
      · rename_i hne
        have hne' : ∀ (T2 : List AV) (H2 : AHeap) (W2 : List Nat), f T H ≠ .ok (.normal, T2, H2, W2) := hne
        have ok1 := hf _ _ _ _ _ _ h
        refine ⟨ok1.2, fun n0 W hn hw => ⟨fun m T3 H3 => m = k + 1 ∧ T3 = T ∧ H3 = H, ⟨rfl, rfl, rfl⟩, ?_⟩⟩
        rintro m T3 H3 ⟨rfl, rfl, rfl⟩
        refine ⟨Nat.le_refl _, ok1.then hn hw ?_⟩
        cases x with
        | normal => exact absurd h (hne' _ _ _)
        | exit i => exact ⟨rfl, rfl, rfl⟩
        | goto i => exact ⟨rfl, rfl, rfl⟩
        | ret => exact ⟨rfl, rfl, rfl⟩
        | panic y => exact ⟨rfl, rfl, rfl⟩
  intro k T H x T' H' Wr h
  obtain ⟨h1, h2⟩ := key k T H x T' H' Wr h
  refine ⟨fun n0 W hn hw => ?_, h1⟩
  obtain ⟨I, hI, hstep⟩ := h2 n0 W hn hw
  exact wpA_loop I k hI (fun m T H hi => (hstep m T H hi).2)

theorem evCb_ok (hm : P.follows .mixedOrders = true) (hc : CallOk P call) {sco : Code → List AV → AHeap → Ev OutE} (hs : ∀ c T H x T' H' Wr, sco c T H = .ok (x, T', H', Wr) → CodeOk P (.scope c) T H x T' H' Wr) (n : Nat) : ∀ (c : Code) (T : List AV) (H : AHeap) (x : AExit) (T' : List AV) (H' : AHeap) (Wr : List Nat), evCb P call sco n c T H = .ok (x, T', H', Wr) → CodeOk P c T H x T' H' Wr
  | .skip, T, H, x, T', H', Wr, h => by cases h; exact ⟨fun _ _ _ _ => wpA_skip ⟨rfl, rfl, rfl⟩, .refl _ _⟩
  | .label _, T, H, x, T', H', Wr, h => by cases h; exact ⟨fun _ _ _ _ => wpA_label ⟨rfl, rfl, rfl⟩, .refl _ _⟩
  | .exit _, T, H, x, T', H', Wr, h => by cases h; exact ⟨fun _ _ _ _ => wpA_exit ⟨rfl, rfl, rfl⟩, .refl _ _⟩
  | .goto _, T, H, x, T', H', Wr, h => by cases h; exact ⟨fun _ _ _ _ => wpA_goto ⟨rfl, rfl, rfl⟩, .refl _ _⟩
  | .ret, T, H, x, T', H', Wr, h => by cases h; exact ⟨fun _ _ _ _ => wpA_ret ⟨rfl, rfl, rfl⟩, .refl _ _⟩
  | .seq a b, T, H, x, T', H', Wr, h => by
    unfold evCb at h
    split at h
    · rename_i T1 H1 W1 h1
      split at h
      · rename_i y T2 H2 W2 h2
        cases h
        have ok1 := evCb_ok hm hc hs n a _ _ _ _ _ _ h1
        have ok2 := evCb_ok hm hc hs n b _ _ _ _ _ _ h2
        exact ⟨fun n0 W hn hw => wpA_seq (ok1.then hn (fun l hl => hw l (List.mem_append_left _ hl)) (ok2.1 n0 W (Nat.le_trans hn ok1.2.1) (fun l hl => hw l (List.mem_append_right _ hl)))), ok1.2.trans ok2.2⟩
      · cases h
    · rename_i hne
      have hne' : ∀ (T2 : List AV) (H2 : AHeap) (W2 : List Nat), evCb P call sco n a T H ≠ .ok (.normal, T2, H2, W2) := hne
      have ok1 := evCb_ok hm hc hs n a _ _ _ _ _ _ h
      refine ⟨fun n0 W hn hw => wpA_seq (ok1.then hn hw ?_), ok1.2⟩
      cases x with
      | normal => exact absurd h (hne' _ _ _)
      | exit i => exact ⟨rfl, rfl, rfl⟩
      | goto i => exact ⟨rfl, rfl, rfl⟩
      | ret => exact ⟨rfl, rfl, rfl⟩
      | panic y => exact ⟨rfl, rfl, rfl⟩
  | .block i c, T, H, x, T', H', Wr, h => by
    unfold evCb at h
    split at h
    · rename_i j T1 H1 W1 h1
      have ok1 := evCb_ok hm hc hs n c _ _ _ _ _ _ h1
      split at h
      · rename_i hj
        cases h
        exact ⟨fun n0 W hn hw => wpA_block (ok1.then hn hw (by simp [AExit.inBlock, hj])), ok1.2⟩
      · rename_i hj
        cases h
        exact ⟨fun n0 W hn hw => wpA_block (ok1.then hn hw (by simp [AExit.inBlock, hj])), ok1.2⟩
    · rename_i hne
      have hne' : ∀ (j : Nat) (T2 : List AV) (H2 : AHeap) (W2 : List Nat), evCb P call sco n c T H ≠ .ok (.exit j, T2, H2, W2) := hne
      have ok1 := evCb_ok hm hc hs n c _ _ _ _ _ _ h
      refine ⟨fun n0 W hn hw => wpA_block (ok1.then hn hw ?_), ok1.2⟩
      cases x with
      | normal => exact ⟨rfl, rfl, rfl⟩
      | exit i => exact absurd h (hne' _ _ _ _)
      | goto i => exact ⟨rfl, rfl, rfl⟩
      | ret => exact ⟨rfl, rfl, rfl⟩
      | panic y => exact ⟨rfl, rfl, rfl⟩
  | .cond c a b, T, H, x, T', H', Wr, h => by
    unfold evCb at h
    split at h
    · rename_i ht
      have ok1 := evCb_ok hm hc hs n a _ _ _ _ _ _ h
      exact ⟨fun n0 W hn hw => wpA_cond ht (ok1.1 n0 W hn hw), ok1.2⟩
    · rename_i ht
      have ok1 := evCb_ok hm hc hs n b _ _ _ _ _ _ h
      exact ⟨fun n0 W hn hw => wpA_cond ht (ok1.1 n0 W hn hw), ok1.2⟩
    · cases h
  | .region id ops false, T, H, x, T', H', Wr, h => by
    unfold evCb at h
    split at h
    · rename_i T1 H1 L h1
      cases h
      obtain ⟨h2, h3⟩ := evR_chain hc ops.toList 0 _ T _ _ _ _ (fun j o hj => by simpa using hj) h1
      have e : (List.range ops.toList.length).map (0 + ·) = List.range ops.size := by simp
      rw [e] at h2
      exact ⟨fun n0 W hn hw => wpA_chain h2 hw ⟨rfl, rfl, rfl⟩, h3⟩
    · cases h
  | .region id ops true, T, H, x, T', H', Wr, h => by
    unfold evCb at h
    split at h
    · rename_i T1 H1 L h1
      split at h
      · rename_i hd
        cases h
        obtain ⟨h2, h3⟩ := evR_chain hc ops.toList 0 _ T _ _ _ _ (fun j o hj => by simpa using hj) h1
        have e : (List.range ops.toList.length).map (0 + ·) = List.range ops.size := by simp
        rw [e] at h2
        exact ⟨fun n0 W hn hw => wpA_chain_draw hm (resv_idle P _) h2 hw hd ⟨rfl, rfl, rfl⟩, h3.unres⟩
      · cases h
    · cases h
  | .loop c, T, H, x, T', H', Wr, h => iterE_ok (fun T H x T' H' Wr h => evCb_ok hm hc hs n c T H x T' H' Wr h) n T H x T' H' Wr h
  | .rangeFunc _ _ _ _, T, H, x, T', H', Wr, h => by cases h
  | .scope c, T, H, x, T', H', Wr, h => hs _ _ _ _ _ _ _ h
  | .refuse _, T, H, x, T', H', Wr, h => by cases h

theorem passE_ok {f : Code → List AV → AHeap → Ev OutE} (hf : ∀ d T H x T' H' Wr, f d T H = .ok (x, T', H', Wr) → CodeOk P d T H x T' H' Wr) (c : Code) : ∀ (k : Nat) (d : Code) (T : List AV) (H : AHeap) (x : AExit) (T' : List AV) (H' : AHeap) (Wr : List Nat), passE f c k d T H = .ok (x, T', H', Wr) → Passes P c x T' H' k d T H Wr
  | 0, d, T, H, x, T', H', Wr, h => by cases h
  | k + 1, d, T, H, x, T', H', Wr, h => by
    unfold passE at h
    split at h
    · rename_i l T1 H1 W1 h1
      split at h
      · rename_i rest hr
        split at h
        · rename_i y T2 H2 W2 h2
          cases h
          exact .next (hf _ _ _ _ _ _ _ h1) hr (passE_ok hf c k _ _ _ _ _ _ _ h2)
        · cases h
      · cases h
    · rename_i hne
      exact .out k (hf _ _ _ _ _ _ _ h) (fun l e => by subst e; exact hne _ _ _ _ h)

theorem evC_ok (hm : P.follows .mixedOrders = true) (hc : CallOk P call) : ∀ (n : Nat) (c : Code) (T : List AV) (H : AHeap) (x : AExit) (T' : List AV) (H' : AHeap) (Wr : List Nat), evC P call n c T H = .ok (x, T', H', Wr) → CodeOk P c T H x T' H' Wr
  | 0 => fun c T H x T' H' Wr h => evCb_ok hm hc (fun _ _ _ _ _ _ _ h => by cases h) 0 c T H x T' H' Wr h
  | n + 1 => fun c T H x T' H' Wr h => evCb_ok hm hc (fun c T H x T' H' Wr h => (passE_ok (fun d T H x T' H' Wr h => evC_ok hm hc n d T H x T' H' Wr h) c n c T H x T' H' Wr h).ok) (n + 1) c T H x T' H' Wr h
end
end Go.Proofs.YtiipaliigpkfhaaGreat.Ab
