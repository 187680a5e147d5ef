/- Part 15: a region whose order is open, the theorem. -/
import Derived.Test.YtiipaliigpkfhaaGreatB5
set_option linter.unusedVariables false
set_option linter.unusedSimpArgs false
namespace Go.Proofs.YtiipaliigpkfhaaGreat.Ab
open Go Go.RowKit

/-- Objects that say nothing of a label without a block. -/
def idle : AObj → Bool
  | .cells _ => true
  | .dead => true
  | _ => false

theorem owns_reserve {E : Env} {H res : AHeap} {w0 w : World} (g : Good E H w0 w) (hres : ∀ o ∈ res, idle o = true) {l b : Nat} (h : owns E (H ++ res) l b) : owns E H l b := by
  by_cases hl : l < H.length
  · unfold owns at h ⊢
    rwa [List.getElem?_append_left hl] at h
  · have hf := g.fresh (Nat.le_of_not_lt hl)
    unfold owns at h
    rw [List.getElem?_append_right (Nat.le_of_not_lt hl)] at h
    cases ho : res[l - H.length]? with
    | none => rw [ho] at h; exact h.elim
    | some o =>
      rw [ho] at h
      have := hres o (List.mem_of_getElem? ho)
      cases o with
      | cells cs => rw [hf.1] at h; cases h
      | dead => exact h.elim
      | tail n sz => simp [idle] at this
      | map es => simp [idle] at this
      | iter m => simp [idle] at this
      | mark k => simp [idle] at this

theorem Good.reserve {E : Env} {H : AHeap} {w0 w : World} (g : Good E H w0 w) (res : AHeap) (hres : ∀ o ∈ res, idle o = true) : Good E (H ++ res) w0 w := by
  refine ⟨g.below, fun h => g.snap h, fun {l o} h => ?_, fun {l l' b} h1 h2 => g.sep (owns_reserve g hres h1) (owns_reserve g hres h2), fun {l} h => g.fresh (by simp at h; omega), fun h => g.φlt h⟩
  by_cases hl : l < H.length
  · rw [List.getElem?_append_left hl] at h
    exact g.obj h
  · have hf := g.fresh (Nat.le_of_not_lt hl)
    rw [List.getElem?_append_right (Nat.le_of_not_lt hl)] at h
    have := hres o (List.mem_of_getElem? h)
    cases o with
    | cells cs => intro b hb; rw [hf.1] at hb; cases hb
    | dead => exact trivial
    | tail n sz => simp [idle] at this
    | map es => simp [idle] at this
    | iter m => simp [idle] at this
    | mark k => simp [idle] at this

theorem Ext.reserve {n0 : Nat} {W : Nat → Prop} {E : Env} {H res : AHeap} {w0 w : World} (g : Good E H w0 w) (hres : ∀ o ∈ res, idle o = true) (hn : n0 ≤ H.length) : Ext n0 W E H w E (H ++ res) w :=
  ⟨.refl E, Nat.le_refl _, by simp, fun {l} hl _ => List.getElem?_append_left (by omega), fun _ _ _ => rfl, fun _ => rfl, fun _ h => ⟨rfl, fun l ho => h l (owns_reserve g hres ho), fun _ => rfl⟩⟩

section
variable {P : Program} {ops : Array Oper} {T0 T' : List AV} {H0 H' : AHeap}

/-- The state under C. -/
structure Under (S : Seq P ops T0 H0 T' H') (H00 : AHeap) (C : Nat → Bool) (n0 : Nat) (W : Nat → Prop) (E0 : Env) (w00 w0 : World) (ds : List Deferred) (a : Act) (w : World) : Prop where
  ex : ∃ p E, p ≤ ops.size ∧ (∀ i, i < p → S.fl i = false → C i = true) ∧ (∀ i, p ≤ i → i < ops.size → S.fl i = false → C i = false) ∧
    Good E (S.Hs p) w0 w ∧ Ext n0 W E0 H00 w00 E (S.Hs p) w ∧ RelT E (foldC ops S.x C (List.range ops.size) T0) a.tmps ∧ ∀ i l, i < ops.size → C i = false → S.al i = some l → E.φ l = none
  ds : a.defers = ds

theorem relT_slots {E : Env} {T1 T2 : List AV} {tmps : Array Value} (h : RelT E T1 tmps) (hl : T2.length = T1.length) (hs : ∀ t : Nat, T2[t]? = T1[t]?) : RelT E T2 tmps :=
  ⟨by rw [h.1, hl], fun i x hx => h.2 i x (by rw [← hs i]; exact hx)⟩

/-- The labels that were kept. -/
structure Kept (S : Seq P ops T0 H0 T' H') (H00 : AHeap) : Prop where
  len : H00.length ≤ H0.length
  lo : ∀ i l, i < ops.size → S.al i = some l → H00.length ≤ l ∧ l < H0.length
  inj : ∀ i j l, i < ops.size → j < ops.size → S.al i = some l → S.al j = some l → i = j

theorem Seq.one (S : Seq P ops T0 H0 T' H') {H00 : AHeap} (hkp : Kept S H00) (hok : OrderOk ops S.fl S.rd S.alt S.Hs S.Wr H0) {C : Nat → Bool} (hc : Closed ops C) {n0 : Nat} {W : Nat → Prop} (hn0 : n0 ≤ H00.length) (hW : ∀ i l, S.fl i = false → l ∈ S.Wr i → l < n0 → W l) {E0 : Env} {w00 w0 : World} {ds : List Deferred} {a : Act} {w : World}
    (hu : Under S H00 C n0 W E0 w00 w0 ds a w) {i : Nat} {o : Oper} (ho : ops[i]? = some o) (hi : C i = false) (hr : ∀ e ∈ o.after, Region.binds .any e = true → C e.on = true) {Q : Exit → Act → World → Prop} {K : Act → World → Prop}
    (hK : ∀ a' w', Under S H00 (fun k => if k = i then true else C k) n0 W E0 w00 w0 ds a' w' → K a' w') : wpOp P ops Q i K a w := by
  obtain ⟨⟨p, E, hp, hp1, hp2, hg, hex, ht, hna⟩, hds⟩ := hu
  have hnot : ∀ j, (if j = i then true else C j) = false → j ≠ i ∧ C j = false := fun j h => by
    by_cases hji : j = i
    · simp [hji] at h
    · simp only [hji, if_false] at h; exact ⟨hji, h⟩
  have hin := (Array.getElem?_eq_some_iff.1 ho).1
  have hslot : ∀ t ∈ looks ops o, (foldC ops S.x C (List.range ops.size) T0)[t]? = (S.Ts i)[t]? := fun t htl => S.slot_eq hok hc ho hi hr htl
  have hput := S.slot_put hok hc ho hi hr
  have hlen : (foldC ops S.x (fun k => if k = i then true else C k) (List.range ops.size) T0).length = (putA (foldC ops S.x C (List.range ops.size) T0) o.dst (S.x i)).length := by rw [foldC_length, putA_length, foldC_length]
  have hrelo : RelO E (S.Ts i) o a.eval := fun q hq => by rw [← opdA_congr hslot hq]; exact opd_rel ht q
  unfold wpOp
  simp only [ho]
  rcases S.step i o ho with ⟨hw, hx, hf, hh⟩ | ⟨hw, hf, hh, hs⟩ | ⟨hw, hf, hs, hlen', hkeep⟩
  · -- not wanted
    rw [← wantedA_congr hslot] at hw
    rw [wanted_eq ht hw]
    simp only [Bool.false_eq_true, if_false]
    refine hK _ _ ⟨⟨p, E, hp, fun j hj hfj => ?_, fun j hj hjn hfj => ?_, hg, hex, ?_, fun j l hjn hj hl => hna j l hjn (hnot j hj).2 hl⟩, by rw [put_defers']; exact hds⟩
    · have : j ≠ i := fun e => by subst e; rw [hf] at hfj; cases hfj
      simp [this, hp1 j hj hfj]
    · have : j ≠ i := fun e => by subst e; rw [hf] at hfj; cases hfj
      simp [this, hp2 j hj hjn hfj]
    · refine relT_slots (put_rel ht o.dst (skip_rel _)) (by rw [hlen, hx]) (fun t => by rw [hput t, hx])
  · -- it changes nothing
    rw [← wantedA_congr hslot] at hw
    rw [wanted_eq ht hw]
    simp only [if_true]
    refine .inl ?_
    have hlab : ∀ l ∈ S.rd i, (S.Hs p)[l]? = (S.Hs i)[l]? ∨ ∃ ob, S.alt i l = some ob ∧ (S.Hs p)[l]? = some ob := by
      intro l hl
      have hlt := hok.known i l hin hl
      rcases Nat.lt_or_ge i p with hip | hip
      · have key : ∀ q, i ≤ q → q ≤ p → (S.Hs q)[l]? = (S.Hs i)[l]? ∨ ∃ ob, S.alt i l = some ob ∧ (S.Hs q)[l]? = some ob := by
          intro q
          induction q with
          | zero => intro h1 _; have : i = 0 := by omega
                    subst this; exact .inl rfl
          | succ q ih =>
            intro h1 h2
            rcases Nat.lt_or_ge q i with h | h
            · have : i = q + 1 := by omega
              subst this; exact .inl rfl
            · have hq : ops[q]? = some ops[q] := by simp [show q < ops.size by omega]
              have hprev := ih h (by omega)
              rcases S.step q _ hq with ⟨_, _, _, h4⟩ | ⟨_, _, h4, _⟩ | ⟨_, hfq, _, _, h5⟩
              · rw [h4]; exact hprev
              · rw [h4]; exact hprev
              · by_cases hm : l ∈ S.Wr q
                · have hiq : i ≠ q := fun e => by subst e; rw [hf] at hfq; cases hfq
                  rcases hok.behind i q l (by omega) (by omega) hf hfq hl hm with ho | ho
                  · have := lt_closed hc q (by omega) (hp1 q (by omega) hfq) i ho
                    rw [hi] at this; cases this
                  · exact .inr ho
                · rw [h5 l (Nat.lt_of_lt_of_le hlt (S.Hs_len q (by omega))) hm]; exact hprev
        exact key p (Nat.le_of_lt hip) (Nat.le_refl _)
      · refine .inl (S.Hs_label hlt i hip (by omega) (fun j h1 h2 h3 hm => ?_)).symm
        have := lt_ready hc ho hr j (hok.before i j l h2 hin hf h3 hl hm)
        rw [hp2 j h1 (by omega) h3] at this; cases this
    refine (hs (S.Hs p) hlab E w0 w a.eval hg (fun l hl => hna i l hin hi hl) hrelo).wp ?_
    rintro v w' ⟨E', hexF, hg', hx⟩
    refine hK _ _ ⟨⟨p, E', hp, fun j hj hfj => ?_, fun j hj hjn hfj => ?_, hg', hex.thenF hexF (fun l hl => (hkp.lo i l hin hl).1), ?_, fun j l hjn hj hl => ?_⟩, by rw [put_defers']; exact hds⟩
    · have : j ≠ i := fun e => by subst e; rw [hf] at hfj; cases hfj
      simp [this, hp1 j hj hfj]
    · have : j ≠ i := fun e => by subst e; rw [hf] at hfj; cases hfj
      simp [this, hp2 j hj hjn hfj]
    · exact relT_slots (put_rel (ht.mono hexF.le) o.dst hx) hlen hput
    · have hj' := hnot j hj
      rw [hexF.old (Nat.lt_of_lt_of_le (hkp.lo j l hjn hl).2 (S.Hs_len p hp)) (fun e => hj'.1 (hkp.inj j i l hjn hin hl e))]
      exact hna j l hjn hj'.2 hl
  · -- it acts
    rw [← wantedA_congr hslot] at hw
    rw [wanted_eq ht hw]
    simp only [if_true]
    refine .inl ?_
    have hpi : p ≤ i := by
      rcases Nat.lt_or_ge i p with h | h
      · have := hp1 i h hf
        rw [hi] at this; cases this
      · exact h
    have hbetween : ∀ j, p ≤ j → j < i → S.fl j = true := by
      intro j h1 h2
      cases hfj : S.fl j with
      | true => rfl
      | false =>
        have := hok.effects j i h2 hin hfj hf
        have := lt_ready hc ho hr j this
        rw [hp2 j h1 (by omega) hfj] at this; cases this
    have hHs : S.Hs i = S.Hs p := S.Hs_same i hpi (by omega) hbetween
    rw [hHs] at hs hkeep hlen'
    refine (hs E w0 w a.eval hg hrelo).wp ?_
    rintro v w' ⟨E', hex', hg', hx⟩
    refine hK _ _ ⟨⟨i + 1, E', hin, fun j hj hfj => ?_, fun j hj hjn hfj => ?_, hg', ?_, ?_, fun j l hjn hj hl => ?_⟩, by rw [put_defers']; exact hds⟩
    · by_cases hji : j = i
      · simp [hji]
      · rcases Nat.lt_or_ge j p with h | h
        · simp [hji, hp1 j h hfj]
        · have := hbetween j h (by omega)
          rw [hfj] at this; cases this
    · have : j ≠ i := by omega
      simp [this, hp2 j (by omega) hjn hfj]
    · refine hex.trans (hex'.weaken ?_ (fun l hl hm => hW i l hf hm hl))
      exact Nat.le_trans hn0 (Nat.le_trans hkp.len (S.Hs_len p hp))
    · exact relT_slots (put_rel (ht.mono hex'.le) o.dst hx) hlen hput
    · rw [hex'.old (Nat.lt_of_lt_of_le (hkp.lo j l hjn hl).2 (S.Hs_len p hp))]
      exact hna j l hjn (hnot j hj).2 hl

theorem Seq.any (S : Seq P ops T0 H0 T' H') {H00 : AHeap} (hkp : Kept S H00) (hok : OrderOk ops S.fl S.rd S.alt S.Hs S.Wr H0) {n0 : Nat} {W : Nat → Prop} (hn0 : n0 ≤ H00.length) (hW : ∀ i l, S.fl i = false → l ∈ S.Wr i → l < n0 → W l) {E0 : Env} {w00 w0 : World} {ds : List Deferred} {Q : Exit → Act → World → Prop}
    (hQ : ∀ (E' : Env) (a' : Act) (w' : World), Ext n0 W E0 H00 w00 E' H' w' → Good E' H' w0 w' → RelT E' T' a'.tmps → a'.defers = ds → Q .normal a' w') :
    ∀ (fuel : Nat) (listed : Array Bool) (a : Act) (w : World), listed.size = ops.size → ((List.range ops.size).filter fun i => !listed.getD i true).length = fuel → Closed ops (fun i => listed.getD i false) → Under S H00 (fun i => listed.getD i false) n0 W E0 w00 w0 ds a w → wpAny P .any ops Q fuel listed a w := by
  have getD_eq : ∀ (listed : Array Bool) (i : Nat), listed.size = ops.size → i < ops.size → listed.getD i true = listed.getD i false := by
    intro l i h hi
    simp [Array.getD_eq_getD_getElem?, h, hi]
  have done : ∀ (listed : Array Bool) (a : Act) (w : World), listed.size = ops.size → (∀ i, i < ops.size → listed.getD i false = true) → Under S H00 (fun i => listed.getD i false) n0 W E0 w00 w0 ds a w → Q .normal a w := by
    intro listed a w hsz hall hu
    obtain ⟨⟨p, E, hp, hp1, hp2, hg, hex, ht, _⟩, hds⟩ := hu
    have hH : S.Hs p = H' := by
      refine Eq.trans ?_ S.hn
      exact (S.Hs_same ops.size hp (Nat.le_refl _) (fun i h1 h2 => by
        cases hf : S.fl i with
        | true => rfl
        | false => have := hp2 i h1 h2 hf; rw [hall i h2] at this; cases this)).symm
    rw [hH] at hg hex
    refine hQ E a w hex hg ?_ hds
    have : foldC ops S.x (fun i => listed.getD i false) (List.range ops.size) T0 = T' := by
      refine Eq.trans ?_ ((S.Ts_fold ops.size (Nat.le_refl _)).symm.trans S.tn)
      exact foldC_congr _ _ _ _ _ (fun i hi => by simp at hi; simp [hall i hi, hi])
    rwa [this] at ht
  -- if nothing may come, all has come
  have allof : ∀ (listed : Array Bool), listed.size = ops.size → Region.ready .any ops listed = [] → ∀ i, i < ops.size → listed.getD i false = true := by
    intro listed hsz hre i
    induction i using Nat.strongRecOn with
    | _ i ih =>
      intro hin
      cases hl : listed.getD i false with
      | true => rfl
      | false =>
        have ho : ops[i]? = some ops[i] := by simp [hin]
        have : i ∈ Region.ready .any ops listed := by
          rw [mem_ready]
          refine ⟨by rw [getD_eq listed i hsz hin]; exact hl, ops[i], ho, fun e he hb => ?_⟩
          have := hok.edges i _ ho e he hb
          exact ih e.on this (by omega)
        rw [hre] at this
        cases this
  intro fuel
  induction fuel with
  | zero =>
    intro listed a w hsz hcount hc hu
    have hall : ∀ i, i < ops.size → listed.getD i false = true := by
      intro i hi
      have hnil : ((List.range ops.size).filter fun i => !listed.getD i true) = [] := List.length_eq_zero_iff.1 hcount
      have := List.filter_eq_nil_iff.1 hnil i (by simp [hi])
      rw [← getD_eq listed i hsz hi]
      simpa using this
    refine ⟨?_, done listed a w hsz hall hu⟩
    unfold Region.ready
    rw [List.filter_eq_nil_iff]
    intro i hi
    simp only [List.mem_range] at hi
    rw [getD_eq listed i hsz hi, hall i hi]
    simp
  | succ fuel ih =>
    intro listed a w hsz hcount hc hu
    refine ⟨fun hre => done listed a w hsz (allof listed hsz hre) hu, fun i hi => ?_⟩
    obtain ⟨hun, o, ho, hr⟩ := mem_ready.1 hi
    have hin := (Array.getElem?_eq_some_iff.1 ho).1
    rw [getD_eq listed i hsz hin] at hun
    have hset : ∀ k, (listed.setIfInBounds i true).getD k false = (fun k => if k = i then true else listed.getD k false) k := by
      intro k
      by_cases hk : k = i
      · subst hk
        simp [Array.getD_eq_getD_getElem?, hsz, hin]
      · simp [Array.getD_eq_getD_getElem?, Array.getElem?_setIfInBounds_ne (Ne.symm hk), hk]
    refine S.one hkp hok hc hn0 hW hu ho hun (fun e he hb => hr e he hb) (fun a' w' hu' => ?_)
    refine ih _ a' w' (by simpa using hsz) ?_ ?_ ?_
    · -- one fewer
      have hcnt : ∀ (l : List Nat), i ∈ l → l.Nodup → (l.filter fun k => !(listed.setIfInBounds i true).getD k true).length + 1 = (l.filter fun k => !listed.getD k true).length := by
        intro l
        induction l with
        | nil => intro h; cases h
        | cons k r ihr =>
          intro hm hnd
          have hset' : ∀ k, k ≠ i → (listed.setIfInBounds i true).getD k true = listed.getD k true := fun k hk => by
            simp [Array.getD_eq_getD_getElem?, Array.getElem?_setIfInBounds_ne (Ne.symm hk)]
          have hself : (listed.setIfInBounds i true).getD i true = true := by simp [Array.getD_eq_getD_getElem?, hsz, hin]
          rw [List.nodup_cons] at hnd
          by_cases hki : k = i
          · subst hki
            have hun' : listed.getD k true = false := by rw [getD_eq listed k hsz hin]; exact hun
            rw [List.filter_cons_of_neg (by simp [hself]), List.filter_cons_of_pos (by simp [hun'])]
            rw [List.length_cons]
            congr 2
            refine List.filter_congr (fun j hj => ?_)
            rw [hset' j (fun e => hnd.1 (e ▸ hj))]
          · have hmr : i ∈ r := by
              rcases List.mem_cons.1 hm with h | h
              · exact absurd h.symm hki
              · exact h
            rw [List.filter_cons, List.filter_cons, hset' k hki]
            split
            · rw [List.length_cons, List.length_cons, ihr hmr hnd.2]
            · exact ihr hmr hnd.2
      have := hcnt (List.range ops.size) (by simp [hin]) List.nodup_range
      omega
    · intro b q hq hb e he hbi
      have hb := (hset b).symm.trans hb
      refine (hset e.on).trans ?_
      by_cases hbi' : b = i
      · subst hbi'
        rw [ho] at hq; cases hq
        have := hr e he hbi
        dsimp only
        split
        · rfl
        · exact this
      · simp only [hbi', if_false] at hb
        have := hc b q hq hb e he hbi
        dsimp only
        split
        · rfl
        · exact this
    · have e : (fun k => (listed.setIfInBounds i true).getD k false) = (fun k => if k = i then true else listed.getD k false) := funext hset
      rw [e]
      exact hu'

/-- **A region whose order is open.** -/
theorem wpA_draw {id n0 : Nat} {W : Nat → Prop} {Q : AExit → List AV → AHeap → Prop} {H00 : AHeap} {res : List AObj} (hm : P.follows .mixedOrders = true) (S : Seq P ops T0 H0 T' H') (hkp : Kept S H00) (hH : H0 = H00 ++ res) (hres : ∀ o ∈ res, idle o = true) (hok : OrderOk ops S.fl S.rd S.alt S.Hs S.Wr H0) (hW : ∀ i l, S.fl i = false → l ∈ S.Wr i → l < n0 → W l) (h : Q .normal T' H') :
    wpA P n0 W (.region id ops true) Q T0 H00 := by
  intro E w0 w a D hn hg ht hd
  refine wp_region_any hm ?_
  have e : ∀ i, (Array.replicate ops.size false).getD i false = false := by
    intro i
    simp only [Array.getD_eq_getD_getElem?, Array.getElem?_replicate]
    split <;> rfl
  refine S.any hkp hok hn hW (E0 := E) (w00 := w.drew) (w0 := w0) (ds := D) (fun E' a' w' hex hg' ht' hds => ?_) ops.size _ a _ (by simp) ?_ ?_ ?_
  · exact ⟨E', _, T', H', h, .normal, (drew_ext n0 W).trans hex, hg', ht', hds⟩
  · have : ((List.range ops.size).filter fun i => !(Array.replicate ops.size false).getD i true) = List.range ops.size := by
      rw [List.filter_eq_self]
      intro i hi
      simp only [List.mem_range] at hi
      simp [Array.getD_eq_getD_getElem?, hi]
    rw [this]; simp
  · intro b o _ hb
    have hb : false = true := (e b).symm.trans hb
    cases hb
  · refine ⟨⟨0, E, Nat.zero_le _, fun i hi => by omega, fun i _ _ _ => e i, ?_, ?_, ?_, fun i l hi _ hl => (hg.fresh (hkp.lo i l hi hl).1).1⟩, hd⟩
    · rw [S.h0, hH]; exact hg.drew.reserve res hres
    · rw [S.h0, hH]; exact .reserve hg.drew hres hn
    · rw [foldC_false _ _ _ _ (fun i _ => e i)]; exact ht
end
end Go.Proofs.YtiipaliigpkfhaaGreat.Ab
