/- Part 23: what a call does where nothing is known of the heap holds at every heap. -/
import Derived.Test.YtiipaliigpkfhaaGreatD4
set_option linter.unusedVariables false
set_option linter.unusedSimpArgs false
set_option maxRecDepth 100000
namespace Go.Proofs.YtiipaliigpkfhaaGreat.Ab
open Go Go.RowKit

theorem ctr_frame {P : Program} {f : FuncId} {args : List AV} {u : Value} {H1 : AHeap} {Wr : List Nat} (h : Ctr P f args (.sc u) [] H1 Wr) (hargs : ∀ a ∈ args, LF a) (H : AHeap) : Ctr P f args (.sc u) H H [] := by
  refine ⟨h.1, fun E w0 w vs hg hr => ?_, .refl _ _⟩
  have g0 : Good E.data [] w w := by
    refine ⟨.refl _ _, fun h => hg.snap h, fun {l o} h => by simp at h, fun {l l' b} h => ?_, fun _ => ⟨rfl, fun _ => rfl⟩, fun h => by cases h⟩
    unfold owns at h
    simp at h
  have hr0 : RelL E.data args vs := ⟨hr.1, fun i x hx => (hr.2 i x hx).lf (hargs x (List.mem_of_getElem? hx)) (fun h => h)⟩
  refine (h.2.1 E.data w w vs g0 hr0).mono ?_
  rintro e w' ⟨E', re, ex, g⟩
  cases re with
  | ret x v hv =>
    cases hv with
    | sc v hp =>
      have hb := g.below
      have hsame : ∀ k, k < w.heap.size → w'.heap[k]? = w.heap[k]? := fun k hk => hb.block k hk
      refine ⟨E, .ret _ _ (.sc _ hp), ⟨.refl E, ex.size, Nat.le_refl _, fun _ _ => rfl, fun _ _ ho => hsame _ (hg.ownlt ho), fun _ => rfl, fun hb h => ⟨hsame _ hb, h, fun _ => rfl⟩⟩, ?_⟩
      refine ⟨hg.below.trans (hb.mono hg.below.size), fun {b o u} h => ?_, fun {l o} h => ?_, hg.sep, hg.fresh, fun h => Nat.lt_of_lt_of_le (hg.φlt h) ex.size⟩
      · rw [cell_same (hsame b (hg.Slt h))]
        exact hg.snap h
      · exact (hg.obj h).step h (.refl E) (fun _ h => h) (fun _ => rfl) (fun _ _ _ _ h => h) (fun b hb => hsame b (hg.ownlt hb))


/-- What was made is forgotten. -/
theorem ctr_forget {P : Program} {f : FuncId} {args : List AV} {x : AV} {H H1 : AHeap} (h : Ctr P f args x H H1 []) (hl : LF x) : Ctr P f args x H H [] := by
  refine ⟨h.1, fun E w0 w vs hg hr => ?_, .refl _ _⟩
  refine (h.2.1 E w0 w vs hg hr).mono ?_
  rintro e w' ⟨E', re, ex, g⟩
  cases re with
  | ret x v hv =>
    obtain ⟨E2, ex2, g2, hv2⟩ := forget_state hg (ex.weaken (Nat.le_refl _) (fun l _ h => by simp at h)) g hv hl
    exact ⟨E2, .ret _ _ hv2, ex2.weaken (Nat.le_refl _) (fun _ _ h => h.elim), g2⟩

/-! ### Labels above a line are forgotten -/
def ownLB (n : Nat) : Own → Bool
  | .tok t => decide (t < n)
  | _ => true
mutual
def lbA (n : Nat) : AV → Bool
  | .any => true
  | .sc _ => true
  | .rptr _ => true
  | .ptr l _ => decide (l < n)
  | .mapr l => decide (l < n)
  | .stamp l _ => decide (l < n)
  | .msl l _ _ => decide (l < n)
  | .rsl _ _ _ _ own => ownLB n own
  | .fn _ a b => lbAs n a && lbAs n b
  | .ifc _ x => lbA n x
  | .agg cs => lbAs n cs
  | .tup cs => lbAs n cs
def lbAs (n : Nat) : List AV → Bool
  | [] => true
  | x :: r => lbA n x && lbAs n r
end

def objLB (n : Nat) : AObj → Bool
  | .cells cs => lbAs n cs
  | .map es => es.all fun e => lbA n e.2
  | .iter m => decide (m < n)
  | _ => true

theorem lbAs_mem {n : Nat} : ∀ {l : List AV}, lbAs n l = true → ∀ x ∈ l, lbA n x = true
  | [], _, x, hx => by cases hx
  | y :: r, h, x, hx => by
    simp only [lbAs, Bool.and_eq_true] at h
    rcases List.mem_cons.1 hx with rfl | hx
    · exact h.1
    · exact lbAs_mem h.2 x hx

def Env.cut (E : Env) (n : Nat) : Env := { φ := fun l => if l < n then E.φ l else none, S := E.S, G := fun t m => if t < n then E.G t m else none }

theorem Rel.cut {E : Env} {n : Nat} {x : AV} {v : Value} (h : Rel E x v) (hl : lbA n x = true) : Rel (E.cut n) x v := by
  induction h with
  | any v => exact .any v
  | sc v h => exact .sc v h
  | ptr l o b h => simp only [lbA, decide_eq_true_eq] at hl; exact .ptr l o b (by simp [Env.cut, hl, h])
  | rptr cs b off u h k ih => exact .rptr cs b off u (fun j x hj => h j x hj) (fun j x hj => k j x hj)
  | rnil sz el own h => exact .rnil sz el own h
  | rodd sz el own a h => exact .rodd sz el own a h
  | rsl sz n' el own b off c u hn ho hc hlen h1 h k ih =>
    refine .rsl sz n' el own b off c u hn ?_ hc hlen h1 (fun i hi j x hj => h i hi j x hj) (fun i hi j x hj => k i hi j x hj)
    cases own with
    | non => exact ho
    | tight => exact ho
    | tok t =>
      simp only [lbA, ownLB, decide_eq_true_eq] at hl
      exact ⟨by simp [Env.cut, hl, ho.1], ho.2⟩
  | fn f first caps us vs h1 h2 k1 k2 i1 i2 =>
    simp only [lbA, Bool.and_eq_true] at hl
    exact .fn f first caps us vs h1 h2 (fun j x hj => i1 j x hj (lbAs_mem hl.1 x (List.mem_of_getElem? hj))) (fun j x hj => i2 j x hj (lbAs_mem hl.2 x (List.mem_of_getElem? hj)))
  | ifc t x v k ih => simp only [lbA] at hl; exact .ifc t x v (ih hl)
  | agg cs us h k ih => simp only [lbA] at hl; exact .agg cs us h (fun j x hj => ih j x hj (lbAs_mem hl x (List.mem_of_getElem? hj)))
  | tup cs us h k ih => simp only [lbA] at hl; exact .tup cs us h (fun j x hj => ih j x hj (lbAs_mem hl x (List.mem_of_getElem? hj)))
  | mapr l b h => simp only [lbA, decide_eq_true_eq] at hl; exact .mapr l b (by simp [Env.cut, hl, h])
  | stamp l i m h => simp only [lbA, decide_eq_true_eq] at hl; exact .stamp l i m (by simp [Env.cut, hl, h])
  | msl l sz m b h hn => simp only [lbA, decide_eq_true_eq] at hl; exact .msl l sz m b (by simp [Env.cut, hl, h]) hn

theorem take_get {α : Type} {l : List α} {n i : Nat} {x : α} (h : (l.take n)[i]? = some x) : i < n ∧ l[i]? = some x := by
  rw [List.getElem?_take] at h
  split at h
  · rename_i hi; exact ⟨hi, h⟩
  · cases h

theorem owns_cut {E : Env} {H : AHeap} {n l b : Nat} (h : owns (E.cut n) (H.take n) l b) : l < n ∧ owns E H l b := by
  unfold owns at h ⊢
  cases hl : (H.take n)[l]? with
  | none => rw [hl] at h; exact h.elim
  | some o =>
    obtain ⟨hn, hH⟩ := take_get hl
    rw [hl] at h
    rw [hH]
    refine ⟨hn, ?_⟩
    cases o with
    | dead => exact h
    | cells cs => simpa [Env.cut, hn] using h
    | tail m sz => simpa [Env.cut, hn] using h
    | map es => simpa [Env.cut, hn] using h
    | iter m => simpa [Env.cut, hn] using h
    | mark k => simpa [Env.cut, hn] using h

theorem Good.trim {E : Env} {H : AHeap} {w0 w : World} {n : Nat} (g : Good E H w0 w) (hk : ∀ o ∈ H.take n, objLB n o = true) : Good (E.cut n) (H.take n) w0 w := by
  refine ⟨g.below, fun h => g.snap h, fun {l o} h => ?_, fun {l l' b} h1 h2 => g.sep (owns_cut h1).2 (owns_cut h2).2, fun {l} h => ?_, fun {l b} h => ?_⟩
  · obtain ⟨hn, hH⟩ := take_get h
    have ho := g.obj hH
    have hb := hk o (List.mem_of_getElem? h)
    have e1 : (E.cut n).φ l = E.φ l := by simp [Env.cut, hn]
    have e2 : ∀ m, (E.cut n).G l m = E.G l m := fun m => by simp [Env.cut, hn]
    cases o with
    | dead => exact trivial
    | cells cs =>
      intro b hb'
      obtain ⟨h1, h2, arr, t, h3, h4⟩ := ho b (e1 ▸ hb')
      refine ⟨h1, h2, arr, t, h3, fun j x hj => ?_⟩
      obtain ⟨u, hu, hr⟩ := h4 j x hj
      exact ⟨u, hu, hr.cut (lbAs_mem hb x (List.mem_of_getElem? hj))⟩
    | tail m sz =>
      obtain ⟨b, c, arr, t, h1, h2⟩ := ho
      exact ⟨b, c, arr, t, (e2 m).trans h1, h2.1, h2.2.1, h2.2.2.1, h2.2.2.2.1, h2.2.2.2.2.1, h2.2.2.2.2.2.1, fun k hk => (e2 k).trans (h2.2.2.2.2.2.2 k hk)⟩
    | map es =>
      intro b hb'
      obtain ⟨h1, ms, ck, h3, h4, h5, h6, h7, h8⟩ := ho b (e1 ▸ hb')
      refine ⟨h1, ms, ck, h3, h4, fun j e hj => ?_, h6, h7, fun i x hx => h8 i x ((e2 i).symm.trans hx)⟩
      obtain ⟨m, hm, hm2, hr⟩ := h5 j e hj
      simp only [objLB, List.all_eq_true] at hb
      exact ⟨m, hm, hm2, hr.cut (hb e (List.mem_of_getElem? hj))⟩
    | iter m =>
      intro b hb'
      obtain ⟨h1, r, ck, h3, h4⟩ := ho b (e1 ▸ hb')
      simp only [objLB, decide_eq_true_eq] at hb
      exact ⟨h1, r, ck, by simp [Env.cut, hb, h3], h4⟩
    | mark k => intro b hb'; exact ho b (e1 ▸ hb')
  · by_cases hn : l < n
    · have : H.length ≤ l := by simp at h; omega
      have := g.fresh this
      exact ⟨by simp [Env.cut, this.1], fun m => by simp [Env.cut, this.2]⟩
    · exact ⟨by simp [Env.cut, hn], fun m => by simp [Env.cut, hn]⟩
  · simp only [Env.cut] at h
    split at h
    · exact g.φlt h
    · cases h


theorem owns_pre {E : Env} {H J : AHeap} {l b : Nat} (h : owns E H l b) : owns E (H ++ J) l b := by
  have hl := owns_len h
  unfold owns at h ⊢
  rwa [List.getElem?_append_left hl]

/-- What was done to a part, seen in the whole. -/
theorem merge_state {E E' : Env} {H2 J : AHeap} {w0 w w' : World} {n0 : Nat} {W : Nat → Prop} (hg : Good E (H2 ++ J) w0 w) (ex : Ext H2.length (fun _ => False) (E.cut H2.length) H2 w E' H2 w') (g : Good E' H2 w0 w') (hH : ∀ o ∈ H2, objLB H2.length o = true) :
    ∃ E2, Ext n0 W E (H2 ++ J) w E2 (H2 ++ J) w' ∧ Good E2 (H2 ++ J) w0 w' ∧ ∀ (y : AV) (v : Value), Rel E' y v → lbA H2.length y = true → Rel E2 y v := by
  have htake : (H2 ++ J).take H2.length = H2 := by simp
  have hback : ∀ l b, owns (E.cut H2.length) H2 l b → l < H2.length ∧ owns E (H2 ++ J) l b := by
    intro l b ho
    have ho' : owns (E.cut H2.length) ((H2 ++ J).take H2.length) l b := by rw [htake]; exact ho
    exact owns_cut ho'
  have hφ : ∀ l, l < H2.length → E'.φ l = E.φ l := fun l hl => (ex.old hl).trans (by simp [Env.cut, hl])
  let E2 : Env := { φ := E.φ, S := E'.S, G := fun t m => if t < H2.length then E'.G t m else E.G t m }
  have hle' : (E'.cut H2.length).le E2 := by
    refine ⟨fun {l b} hl => ?_, fun hl => hl, fun {k m z} hl => ?_⟩
    · simp only [Env.cut] at hl
      split at hl
      · rename_i hk; exact (hφ l hk).symm.trans hl
      · cases hl
    · simp only [Env.cut] at hl
      split at hl
      · rename_i hk; simp only [E2, hk, if_true]; exact hl
      · cases hl
  have conv : ∀ {y : AV} {v : Value}, Rel E' y v → lbA H2.length y = true → Rel E2 y v := fun hr hl => (hr.cut hl).mono hle'
  have hle : E.le E2 := by
    refine ⟨fun hl => hl, fun {b o u} hl => ex.le.S hl, fun {k m z} hl => ?_⟩
    by_cases hk : k < H2.length
    · simp only [E2, hk, if_true]
      exact ex.le.G (by simp only [Env.cut, hk, if_true]; exact hl)
    · simp only [E2, hk, if_false]; exact hl
  have free : ∀ l b, ¬ l < H2.length → owns E (H2 ++ J) l b → ∀ k, ¬ owns (E.cut H2.length) H2 k b := by
    intro l b hl ho k hk
    obtain ⟨h1, h2⟩ := hback k b hk
    have := hg.sep h2 ho
    omega
  have hsame : ∀ l b, owns E (H2 ++ J) l b → w'.heap[b]? = w.heap[b]? := by
    intro l b ho
    by_cases hl : l < H2.length
    · have ho' : owns (E.cut H2.length) H2 l b := by
        unfold owns at ho ⊢
        rw [List.getElem?_append_left hl] at ho
        cases hq : H2[l]? with
        | none => rw [hq] at ho; exact ho
        | some q =>
          rw [hq] at ho
          cases q with
          | dead => exact ho
          | cells cs => simpa [Env.cut, hl] using ho
          | tail m sz => simpa [Env.cut, hl] using ho
          | map es => simpa [Env.cut, hl] using ho
          | iter m => simpa [Env.cut, hl] using ho
          | mark k => simpa [Env.cut, hl] using ho
      exact ex.keep hl (fun hf => hf) ho'
    · exact (ex.stay (hg.ownlt ho) (free l b hl ho)).1
  -- who owns what at the end
  have own2 : ∀ l b, owns E2 (H2 ++ J) l b → (l < H2.length ∧ owns E' H2 l b) ∨ (¬ l < H2.length ∧ owns E (H2 ++ J) l b) := by
    intro l b ho
    by_cases hl : l < H2.length
    · refine .inl ⟨hl, ?_⟩
      unfold owns at ho ⊢
      rw [List.getElem?_append_left hl] at ho
      cases hq : H2[l]? with
      | none => rw [hq] at ho; exact ho
      | some q =>
        rw [hq] at ho
        cases q with
        | dead => exact ho
        | cells cs => exact (hφ l hl).trans ho
        | tail m sz => obtain ⟨z, hz⟩ := ho; exact ⟨z, by simpa only [E2, hl, if_true] using hz⟩
        | map es => exact (hφ l hl).trans ho
        | iter m => exact (hφ l hl).trans ho
        | mark k => exact (hφ l hl).trans ho
    · refine .inr ⟨hl, ?_⟩
      unfold owns at ho ⊢
      cases hq : (H2 ++ J)[l]? with
      | none => rw [hq] at ho; exact ho
      | some q =>
        rw [hq] at ho
        cases q with
        | dead => exact ho
        | cells cs => exact ho
        | tail m sz => obtain ⟨z, hz⟩ := ho; exact ⟨z, by simpa only [E2, hl, if_false] using hz⟩
        | map es => exact ho
        | iter m => exact ho
        | mark k => exact ho
  have gt := g.trim (n := H2.length) (by simpa using hH)
  have hself : H2.take H2.length = H2 := by simp
  rw [hself] at gt
  have good : Good E2 (H2 ++ J) w0 w' := by
    refine ⟨g.below, fun h => g.snap h, fun {l o} hl => ?_, fun {l l' b} h1 h2 => ?_, fun {l} hl => ?_, fun hl => Nat.lt_of_lt_of_le (hg.φlt hl) ex.size⟩
    · by_cases hk : l < H2.length
      · have hl' : H2[l]? = some o := by rwa [List.getElem?_append_left hk] at hl
        refine (gt.obj hl').step hl' hle' (fun b hb => ?_) (fun m => ?_) (fun b c _ _ hn => hn) (fun b _ => rfl)
        · simp only [Env.cut, hk, if_true]; exact (hφ l hk).trans hb
        · simp only [Env.cut, hk, if_true, E2]
      · refine (hg.obj hl).step hl hle (fun b hb => hb) (fun m => ?_) (fun b c hb _ hn => ?_) (fun b hb => hsame l b hb)
        · simp only [hk, if_false, E2]
        · exact ((ex.stay (hg.ownlt hb) (free l b hk hb)).2.2 c).trans hn
    · rcases own2 l b h1 with ⟨k1, o1⟩ | ⟨k1, o1⟩ <;> rcases own2 l' b h2 with ⟨k2, o2⟩ | ⟨k2, o2⟩
      · exact g.sep o1 o2
      · exact absurd o1 ((ex.stay (hg.ownlt o2) (free l' b k2 o2)).2.1 l)
      · exact absurd o2 ((ex.stay (hg.ownlt o1) (free l b k1 o1)).2.1 l')
      · exact hg.sep o1 o2
    · have := hg.fresh hl
      have hk : ¬ l < H2.length := by simp at hl; omega
      exact ⟨this.1, fun m => by simp only [E2, hk, if_false]; exact this.2 m⟩
  refine ⟨E2, ⟨hle, ex.size, Nat.le_refl _, fun _ _ => rfl, fun _ _ ho => hsame _ _ ho, fun _ => rfl, fun {b} hb h0 => ?_⟩, good, fun y v hr hl => conv hr hl⟩
  have hfree : ∀ k, ¬ owns (E.cut H2.length) H2 k b := fun k hk => h0 k (hback k b hk).2
  have hst := ex.stay hb hfree
  refine ⟨hst.1, fun l ho => ?_, fun o => hst.2.2 o⟩
  rcases own2 l b ho with ⟨_, o1⟩ | ⟨_, o1⟩
  · exact hst.2.1 l o1
  · exact h0 l o1

theorem good_part {E : Env} {H J : AHeap} {w0 w : World} (hg : Good E (H ++ J) w0 w) (hH : ∀ o ∈ H, objLB H.length o = true) : Good (E.cut H.length) H w0 w := by
  have htake : (H ++ J).take H.length = H := by simp
  have := hg.trim (n := H.length) (by rw [htake]; exact hH)
  rwa [htake] at this

/-! ### A row that was written becomes one that stays -/
theorem owns_kill {E : Env} {H : AHeap} {l k b : Nat} (h : owns E (H.set l .dead) k b) : owns E H k b ∧ k ≠ l := by
  by_cases hk : l = k
  · subst hk
    have hlt := owns_len h
    unfold owns at h
    rw [List.getElem?_set_self (by simpa using hlt)] at h
    exact h.elim
  · refine ⟨?_, fun e => hk e.symm⟩
    unfold owns at h ⊢
    rwa [List.getElem?_set_ne hk] at h

theorem Good.forgetObj {E : Env} {H : AHeap} {w0 w : World} (g : Good E H w0 w) (l : Nat) : Good E (H.set l .dead) w0 w := by
  refine ⟨g.below, fun h => g.snap h, fun {k o} h => ?_, fun {k k' b} h1 h2 => g.sep (owns_kill h1).1 (owns_kill h2).1, fun {k} h => g.fresh (by simpa using h), fun h => g.φlt h⟩
  by_cases hk : l = k
  · subst hk
    have hlt : l < H.length := by have := (List.getElem?_eq_some_iff.1 h).1; simpa using this
    rw [List.getElem?_set_self hlt] at h
    cases h
    exact trivial
  · rw [List.getElem?_set_ne hk] at h
    exact g.obj h

theorem freeze_state {E : Env} {H : AHeap} {w0 w : World} {n0 : Nat} {W : Nat → Prop} {l sz n : Nat} {cs : List AV} {v : Value} (g : Good E H w0 w) (hW : l < n0 → W l) (hl : H[l]? = some (.cells cs)) (hcl : cs.length = n * sz) (hlf : ∀ x ∈ cs, lf1 x = true) (hv : Rel E (.msl l sz n) v) :
    ∃ E', Ext n0 W E H w E' (H.set l .dead) w ∧ Good E' (H.set l .dead) w0 w ∧ Rel E' (.rsl false sz n (rowOf sz cs) .tight) v := by
  cases hv with
  | msl l sz n b hb hn =>
    obtain ⟨_, hS0, arr, t, hh, hr⟩ := g.obj hl b hb
    have hown : owns E H l b := by unfold owns; rw [hl]; exact hb
    have gk := g.forgetObj l
    have hfree : ∀ k, ¬ owns E (H.set l .dead) k b := fun k hk => (owns_kill hk).2 (g.sep (owns_kill hk).1 hown)
    have g' := gk.stay (b := b) (f := (arr[·]?)) hfree (fun o u h => by unfold World.cell?; rw [hh]; simpa using h)
    have hSb : ∀ o, (E.withS b (arr[·]?)).S b o = arr[o]? := fun o => by simp [Env.withS, hS0 o]
    refine ⟨E.withS b (arr[·]?), ⟨withS_le _ _ _, Nat.le_refl _, by simp, fun {k} hk hw => List.getElem?_set_ne (fun e => by subst e; exact hw (hW hk)), fun _ _ _ => rfl, fun _ => rfl, fun {x} hx h => ⟨rfl, fun k ho => ?_, fun o => ?_⟩⟩, g', ?_⟩
    · have ho' : owns E (H.set l .dead) k x := ho
      exact h k (owns_kill ho').1
    · have hne : x ≠ b := fun e => h l (e ▸ hown)
      simp [Env.withS, hne]
    · refine .rsl sz n _ .tight b 0 n (fun i j => arr.getD (i * sz + j) undef) hn rfl (Nat.le_refl _) (fun i hi => rowOf_length hcl hi) (fun i hi x hx => lf1_one (hlf x (List.mem_of_mem_drop (List.mem_of_mem_take hx)))) (fun i hi j x hj => ?_) (fun i hi j x hj => ?_)
      · have hj' := rowOf_get hj
        obtain ⟨u, hu, _⟩ := hr _ x hj'
        rw [hSb, Nat.zero_add, hu]
        simp [Array.getD_eq_getD_getElem?, hu]
      · have hj' := rowOf_get hj
        obtain ⟨u, hu, hrel⟩ := hr _ x hj'
        have e : arr.getD (i * sz + j) undef = u := by simp [Array.getD_eq_getD_getElem?, hu]
        rw [e]
        exact hrel.lf (lf1_LF (hlf x (List.mem_of_getElem? hj'))) (fun h => (withS_le E b (arr[·]?)).S h)

theorem ctr_freeze {P : Program} {f : FuncId} {args : List AV} {l sz n : Nat} {cs : List AV} {H H1 : AHeap} {W : List Nat} (h : Ctr P f args (.msl l sz n) H H1 W) (hn : H.length ≤ l) (hl : H1[l]? = some (.cells cs)) (hcl : cs.length = n * sz) (hlf : ∀ x ∈ cs, lf1 x = true) : Ctr P f args (.rsl false sz n (rowOf sz cs) .tight) H (H1.set l .dead) W := by
  refine ⟨h.1, fun E w0 w vs hg hr => ?_, by simpa using h.2.2.1, fun k hk hm => ?_⟩
  · refine (h.2.1 E w0 w vs hg hr).mono ?_
    rintro e w' ⟨E', re, ex, g⟩
    cases re with
    | ret x v hv =>
      obtain ⟨E2, ex2, g2, r2⟩ := freeze_state (n0 := H.length) (W := (· ∈ W)) g (fun hlt => by omega) hl hcl hlf hv
      exact ⟨E2, .ret _ _ r2, ex.trans ex2, g2⟩
  · rw [List.getElem?_set_ne (by omega)]; exact h.2.2.2 k hk hm

/-- Beside what else there is. -/
theorem ctr_beside {P : Program} {f : FuncId} {args : List AV} {x : AV} {H : AHeap} (h : Ctr P f args x H H []) (hargs : lbAs H.length args = true) (hx : lbA H.length x = true) (hH : ∀ o ∈ H, objLB H.length o = true) (J : AHeap) : Ctr P f args x (H ++ J) (H ++ J) [] := by
  refine ⟨h.1, fun E w0 w vs hg hr => ?_, .refl _ _⟩
  have hr0 : RelL (E.cut H.length) args vs := ⟨hr.1, fun i x hx => (hr.2 i x hx).cut (lbAs_mem hargs x (List.mem_of_getElem? hx))⟩
  refine (h.2.1 (E.cut H.length) w0 w vs (good_part hg hH) hr0).mono ?_
  rintro e w' ⟨E', re, ex, g⟩
  cases re with
  | ret x v hv =>
    obtain ⟨E2, ex2, g2, conv⟩ := merge_state (n0 := (H ++ J).length) (W := (· ∈ ([] : List Nat))) hg (ex.weaken (Nat.le_refl _) (fun l _ hl => by simp at hl)) g hH
    exact ⟨E2, .ret _ _ (conv _ _ hv hx), ex2, g2⟩
end Go.Proofs.YtiipaliigpkfhaaGreat.Ab
