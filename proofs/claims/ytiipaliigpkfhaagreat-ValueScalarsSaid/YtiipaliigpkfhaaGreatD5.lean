/- Part 23: what a call does where nothing is known of the heap holds at every heap. -/
import Derived.Test.YtiipaliigpkfhaaGreatD4
set_option linter.unusedVariables false
set_option linter.unusedSimpArgs false
set_option maxRecDepth 100000
namespace Go.Proofs.YtiipaliigpkfhaaGreat.Ab
open Go Go.RowKit

theorem ctr_frame {P : Program} {f : FuncId} {args : List AV} {u : Value} {H1 : AHeap} {Wr : List Nat} (h : Ctr P f args (.sc u) [] H1 Wr) (hargs : ∀ a ∈ args, LF a) (H : AHeap) : Ctr P f args (.sc u) H H [] := by
  refine ⟨h.1, fun E w0 w vs hg hr => ?_, .refl _ _⟩
  have g0 : Good E.data [] w w := by
    refine ⟨.refl _ _, fun h => hg.snap h, fun {l o} h => by simp at h, fun {l l' b} h => ?_, fun _ => ⟨rfl, fun _ => rfl⟩, fun h => by cases h⟩
    unfold owns at h
    simp at h
  have hr0 : RelL E.data args vs := ⟨hr.1, fun i x hx => (hr.2 i x hx).lf (hargs x (List.mem_of_getElem? hx)) (fun h => h)⟩
  refine (h.2.1 E.data w w vs g0 hr0).mono ?_
  rintro e w' ⟨E', re, ex, g⟩
  cases re with
  | ret x v hv =>
    cases hv with
    | sc v hp =>
      have hb := g.below
      have hsame : ∀ k, k < w.heap.size → w'.heap[k]? = w.heap[k]? := fun k hk => hb.block k hk
      refine ⟨E, .ret _ _ (.sc _ hp), ⟨.refl E, ex.size, Nat.le_refl _, fun _ _ => rfl, fun _ _ ho => hsame _ (hg.ownlt ho), fun _ => rfl, fun hb h => ⟨hsame _ hb, h, fun _ => rfl⟩⟩, ?_⟩
      refine ⟨hg.below.trans (hb.mono hg.below.size), fun {b o u} h => ?_, fun {l o} h => ?_, hg.sep, hg.fresh, fun h => Nat.lt_of_lt_of_le (hg.φlt h) ex.size⟩
      · rw [cell_same (hsame b (hg.Slt h))]
        exact hg.snap h
      · exact (hg.obj h).step h (.refl E) (fun _ h => h) (fun _ => rfl) (fun _ _ _ _ h => h) (fun b hb => hsame b (hg.ownlt hb))


/-- What was made is forgotten. -/
theorem ctr_forget {P : Program} {f : FuncId} {args : List AV} {x : AV} {H H1 : AHeap} (h : Ctr P f args x H H1 []) (hl : LF x) : Ctr P f args x H H [] := by
  refine ⟨h.1, fun E w0 w vs hg hr => ?_, .refl _ _⟩
  refine (h.2.1 E w0 w vs hg hr).mono ?_
  rintro e w' ⟨E', re, ex, g⟩
  cases re with
  | ret x v hv =>
    obtain ⟨E2, ex2, g2, hv2⟩ := forget_state hg (ex.weaken (Nat.le_refl _) (fun l _ h => by simp at h)) g hv hl
    exact ⟨E2, .ret _ _ hv2, ex2.weaken (Nat.le_refl _) (fun _ _ h => h.elim), g2⟩

/-! ### Labels above a line are forgotten -/
def ownLB (n : Nat) : Own → Bool
  | .tok t => decide (t < n)
  | _ => true
mutual
def lbA (n : Nat) : AV → Bool
  | .any => true
  | .sc _ => true
  | .rptr _ => true
  | .ptr l _ => decide (l < n)
  | .mapr l => decide (l < n)
  | .rsl _ _ _ _ own => ownLB n own
  | .fn _ a b => lbAs n a && lbAs n b
  | .ifc _ x => lbA n x
  | .agg cs => lbAs n cs
  | .tup cs => lbAs n cs
def lbAs (n : Nat) : List AV → Bool
  | [] => true
  | x :: r => lbA n x && lbAs n r
end

def objLB (n : Nat) : AObj → Bool
  | .cells cs => lbAs n cs
  | .map es => es.all fun e => lbA n e.2
  | .iter m => decide (m < n)
  | _ => true

theorem lbAs_mem {n : Nat} : ∀ {l : List AV}, lbAs n l = true → ∀ x ∈ l, lbA n x = true
  | [], _, x, hx => by cases hx
  | y :: r, h, x, hx => by
    simp only [lbAs, Bool.and_eq_true] at h
    rcases List.mem_cons.1 hx with rfl | hx
    · exact h.1
    · exact lbAs_mem h.2 x hx

def Env.cut (E : Env) (n : Nat) : Env := { φ := fun l => if l < n then E.φ l else none, S := E.S, G := fun t m => if t < n then E.G t m else none }

theorem Rel.cut {E : Env} {n : Nat} {x : AV} {v : Value} (h : Rel E x v) (hl : lbA n x = true) : Rel (E.cut n) x v := by
  induction h with
  | any v => exact .any v
  | sc v h => exact .sc v h
  | ptr l o b h => simp only [lbA, decide_eq_true_eq] at hl; exact .ptr l o b (by simp [Env.cut, hl, h])
  | rptr cs b off u h k ih => exact .rptr cs b off u (fun j x hj => h j x hj) (fun j x hj => k j x hj)
  | rnil sz el own h => exact .rnil sz el own h
  | rodd sz el own a h => exact .rodd sz el own a h
  | rsl sz n' el own b off c u hn ho hc hlen h1 h k ih =>
    refine .rsl sz n' el own b off c u hn ?_ hc hlen h1 (fun i hi j x hj => h i hi j x hj) (fun i hi j x hj => k i hi j x hj)
    cases own with
    | non => exact ho
    | tight => exact ho
    | tok t =>
      simp only [lbA, ownLB, decide_eq_true_eq] at hl
      exact ⟨by simp [Env.cut, hl, ho.1], ho.2⟩
  | fn f first caps us vs h1 h2 k1 k2 i1 i2 =>
    simp only [lbA, Bool.and_eq_true] at hl
    exact .fn f first caps us vs h1 h2 (fun j x hj => i1 j x hj (lbAs_mem hl.1 x (List.mem_of_getElem? hj))) (fun j x hj => i2 j x hj (lbAs_mem hl.2 x (List.mem_of_getElem? hj)))
  | ifc t x v k ih => simp only [lbA] at hl; exact .ifc t x v (ih hl)
  | agg cs us h k ih => simp only [lbA] at hl; exact .agg cs us h (fun j x hj => ih j x hj (lbAs_mem hl x (List.mem_of_getElem? hj)))
  | tup cs us h k ih => simp only [lbA] at hl; exact .tup cs us h (fun j x hj => ih j x hj (lbAs_mem hl x (List.mem_of_getElem? hj)))
  | mapr l b h => simp only [lbA, decide_eq_true_eq] at hl; exact .mapr l b (by simp [Env.cut, hl, h])

theorem take_get {α : Type} {l : List α} {n i : Nat} {x : α} (h : (l.take n)[i]? = some x) : i < n ∧ l[i]? = some x := by
  rw [List.getElem?_take] at h
  split at h
  · rename_i hi; exact ⟨hi, h⟩
  · cases h

theorem owns_cut {E : Env} {H : AHeap} {n l b : Nat} (h : owns (E.cut n) (H.take n) l b) : l < n ∧ owns E H l b := by
  unfold owns at h ⊢
  cases hl : (H.take n)[l]? with
  | none => rw [hl] at h; exact h.elim
  | some o =>
    obtain ⟨hn, hH⟩ := take_get hl
    rw [hl] at h
    rw [hH]
    refine ⟨hn, ?_⟩
    cases o with
    | dead => exact h
    | cells cs => simpa [Env.cut, hn] using h
    | tail m sz => simpa [Env.cut, hn] using h
    | map es => simpa [Env.cut, hn] using h
    | iter m => simpa [Env.cut, hn] using h
    | mark k => simpa [Env.cut, hn] using h

theorem Good.trim {E : Env} {H : AHeap} {w0 w : World} {n : Nat} (g : Good E H w0 w) (hk : ∀ o ∈ H.take n, objLB n o = true) : Good (E.cut n) (H.take n) w0 w := by
  refine ⟨g.below, fun h => g.snap h, fun {l o} h => ?_, fun {l l' b} h1 h2 => g.sep (owns_cut h1).2 (owns_cut h2).2, fun {l} h => ?_, fun {l b} h => ?_⟩
  · obtain ⟨hn, hH⟩ := take_get h
    have ho := g.obj hH
    have hb := hk o (List.mem_of_getElem? h)
    have e1 : (E.cut n).φ l = E.φ l := by simp [Env.cut, hn]
    have e2 : ∀ m, (E.cut n).G l m = E.G l m := fun m => by simp [Env.cut, hn]
    cases o with
    | dead => exact trivial
    | cells cs =>
      intro b hb'
      obtain ⟨h1, h2, arr, t, h3, h4⟩ := ho b (e1 ▸ hb')
      refine ⟨h1, h2, arr, t, h3, fun j x hj => ?_⟩
      obtain ⟨u, hu, hr⟩ := h4 j x hj
      exact ⟨u, hu, hr.cut (lbAs_mem hb x (List.mem_of_getElem? hj))⟩
    | tail m sz =>
      obtain ⟨b, c, arr, t, h1, h2⟩ := ho
      exact ⟨b, c, arr, t, (e2 m).trans h1, h2.1, h2.2.1, h2.2.2.1, h2.2.2.2.1, h2.2.2.2.2.1, h2.2.2.2.2.2.1, fun k hk => (e2 k).trans (h2.2.2.2.2.2.2 k hk)⟩
    | map es =>
      intro b hb'
      obtain ⟨h1, ms, ck, h3, h4, h5, h6⟩ := ho b (e1 ▸ hb')
      refine ⟨h1, ms, ck, h3, h4, fun j e hj => ?_, h6⟩
      obtain ⟨m, hm, hm2, hr⟩ := h5 j e hj
      simp only [objLB, List.all_eq_true] at hb
      exact ⟨m, hm, hm2, hr.cut (hb e (List.mem_of_getElem? hj))⟩
    | iter m =>
      intro b hb'
      obtain ⟨h1, r, ck, h3, h4⟩ := ho b (e1 ▸ hb')
      simp only [objLB, decide_eq_true_eq] at hb
      exact ⟨h1, r, ck, by simp [Env.cut, hb, h3], h4⟩
    | mark k => intro b hb'; exact ho b (e1 ▸ hb')
  · by_cases hn : l < n
    · have : H.length ≤ l := by simp at h; omega
      have := g.fresh this
      exact ⟨by simp [Env.cut, this.1], fun m => by simp [Env.cut, this.2]⟩
    · exact ⟨by simp [Env.cut, hn], fun m => by simp [Env.cut, hn]⟩
  · simp only [Env.cut] at h
    split at h
    · exact g.φlt h
    · cases h


theorem owns_pre {E : Env} {H J : AHeap} {l b : Nat} (h : owns E H l b) : owns E (H ++ J) l b := by
  have hl := owns_len h
  unfold owns at h ⊢
  rwa [List.getElem?_append_left hl]

/-- Beside what else there is. -/
theorem ctr_beside {P : Program} {f : FuncId} {args : List AV} {u : Value} {H : AHeap} (h : Ctr P f args (.sc u) H H []) (hargs : lbAs H.length args = true) (hH : ∀ o ∈ H, objLB H.length o = true) (J : AHeap) : Ctr P f args (.sc u) (H ++ J) (H ++ J) [] := by
  refine ⟨h.1, fun E w0 w vs hg hr => ?_, .refl _ _⟩
  have ht : (H ++ J).take H.length = H := by simp
  have g0 : Good (E.cut H.length) H w0 w := by
    have := hg.trim (n := H.length) (by rw [ht]; exact hH)
    rwa [ht] at this
  have hback : ∀ l b, owns (E.cut H.length) H l b → l < H.length ∧ owns E (H ++ J) l b := by
    intro l b ho
    have ho' : owns (E.cut H.length) ((H ++ J).take H.length) l b := by rw [ht]; exact ho
    exact owns_cut ho'
  have hr0 : RelL (E.cut H.length) args vs := ⟨hr.1, fun i x hx => (hr.2 i x hx).cut (lbAs_mem hargs x (List.mem_of_getElem? hx))⟩
  refine (h.2.1 (E.cut H.length) w0 w vs g0 hr0).mono ?_
  rintro e w' ⟨E', re, ex, g⟩
  cases re with
  | ret x v hv =>
    cases hv with
    | sc v hp =>
      have hsame : ∀ l b, owns E (H ++ J) l b → w'.heap[b]? = w.heap[b]? := by
        intro l b ho
        by_cases hl : l < H.length
        · have ho' : owns (E.cut H.length) H l b := by
            unfold owns at ho ⊢
            rw [List.getElem?_append_left hl] at ho
            cases hq : H[l]? with
            | none => rw [hq] at ho; exact ho
            | some q =>
              rw [hq] at ho
              cases q with
              | dead => exact ho
              | cells cs => simpa [Env.cut, hl] using ho
              | tail m sz => simpa [Env.cut, hl] using ho
              | map es => simpa [Env.cut, hl] using ho
              | iter m => simpa [Env.cut, hl] using ho
              | mark k => simpa [Env.cut, hl] using ho
          exact ex.keep hl (by simp) ho'
        · refine (ex.stay (hg.ownlt ho) (fun k hk => ?_)).1
          obtain ⟨h1, h2⟩ := hback k b hk
          have := hg.sep h2 ho
          omega
      refine ⟨E, .ret _ _ (.sc _ hp), ⟨.refl E, ex.size, Nat.le_refl _, fun _ _ => rfl, fun _ _ ho => hsame _ _ ho, fun _ => rfl, fun {b} hb h0 => ⟨(ex.stay hb (fun k hk => h0 k (hback k b hk).2)).1, h0, fun _ => rfl⟩⟩, ?_⟩
      refine ⟨g.below, fun {b o u} h => g.snap (ex.le.S h), fun {l o} h => ?_, hg.sep, hg.fresh, fun h => Nat.lt_of_lt_of_le (hg.φlt h) ex.size⟩
      exact (hg.obj h).step h (.refl E) (fun _ h => h) (fun _ => rfl) (fun _ _ _ _ h => h) (fun b hb => hsame l b hb)
end Go.Proofs.YtiipaliigpkfhaaGreat.Ab
