/- Part 3: memory: new blocks, labels taken, cells that stay, stores. -/
import Derived.Test.YtiipaliigpkfhaaGreatA2
set_option linter.unusedVariables false
namespace Go.Proofs.YtiipaliigpkfhaaGreat.Ab
open Go Go.RowKit

theorem cell_lt {w : World} {b o : Nat} {u : Value} (h : w.cell? ⟨b, o, none⟩ = some u) : b < w.heap.size := by
  unfold World.cell? at h
  cases hb : w.heap[b]? with
  | none => simp [hb] at h
  | some x => exact (Array.getElem?_eq_some_iff.1 hb).1

theorem cell_same {w w' : World} {b o : Nat} (h : w'.heap[b]? = w.heap[b]?) : w'.cell? ⟨b, o, none⟩ = w.cell? ⟨b, o, none⟩ := by
  unfold World.cell?
  rw [h]

theorem cell_at {w : World} {b o : Nat} {arr : Array Value} {T : TypeId} (h : w.heap[b]? = some (.cells arr T (0, 0))) : w.cell? ⟨b, o, none⟩ = arr[o]? := by
  unfold World.cell?
  simp [h]

theorem alloc_size (w : World) (o : Obj) : (w.alloc o).heap.size = w.heap.size + 1 := by
  show (w.heap.push o).size = _
  simp

theorem frozen_at {w : World} {b o : Nat} {arr : Array Value} {T : TypeId} (h : w.heap[b]? = some (.cells arr T (0, 0))) : w.frozen? ⟨b, o, none⟩ = false := by
  unfold World.frozen?
  simp [h]

section
variable {E : Env} {H : AHeap} {w0 w : World}

theorem Good.Slt (g : Good E H w0 w) {b o : Nat} {u : Value} (h : E.S b o = some u) : b < w.heap.size := cell_lt (g.snap h)

theorem Good.ownlt (g : Good E H w0 w) {l b : Nat} (h : owns E H l b) : b < w.heap.size := by
  unfold owns at h
  cases ho : H[l]? with
  | none => rw [ho] at h; exact h.elim
  | some o =>
    rw [ho] at h
    cases o with
    | dead => exact h.elim
    | cells cs => exact g.φlt h
    | map es => exact g.φlt h
    | iter m => exact g.φlt h
    | mark k => exact g.φlt h
    | tail n sz =>
      obtain ⟨c, hc⟩ := h
      obtain ⟨b', c', arr, T, h1, h2, h3, _⟩ := g.obj ho
      rw [hc] at h1
      simp only [Option.some.injEq, Prod.mk.injEq] at h1
      rw [h1.1]
      exact (Array.getElem?_eq_some_iff.1 h3).1

theorem Good.ownbase (g : Good E H w0 w) {l b : Nat} (h : owns E H l b) : w0.heap.size ≤ b := by
  unfold owns at h
  cases ho : H[l]? with
  | none => rw [ho] at h; exact h.elim
  | some o =>
    rw [ho] at h
    cases o with
    | dead => exact h.elim
    | cells cs => exact (g.obj ho b h).1
    | map es => exact (g.obj ho b h).1
    | iter m => exact (g.obj ho b h).1
    | mark k => exact (g.obj ho b h).1
    | tail n sz =>
      obtain ⟨c, hc⟩ := h
      obtain ⟨b', c', arr, T, h1, h2, h3, _⟩ := g.obj ho
      rw [hc] at h1
      simp only [Option.some.injEq, Prod.mk.injEq] at h1
      rw [h1.1]
      exact h2

/-- An object is told of a later state, if its own block and its own names are as they were. -/
theorem ObjRel.step {E' : Env} {w' : World} {l base : Nat} {o : AObj} (h : ObjRel E l o base w) (ho : H[l]? = some o) (he : E.le E') (hφ : ∀ b, E'.φ l = some b → E.φ l = some b)
    (hG : ∀ n, E'.G l n = E.G l n) (hS : ∀ b c, owns E H l b → (∀ n sz, o = .tail n sz → n * sz ≤ c) → E.S b c = none → E'.S b c = none) (hw : ∀ b, owns E H l b → w'.heap[b]? = w.heap[b]?) : ObjRel E' l o base w' := by
  cases o with
  | dead => trivial
  | cells cs =>
    intro b hb
    have hb' := hφ b hb
    have hown : owns E H l b := by unfold owns; rw [ho]; exact hb'
    obtain ⟨h1, h2, arr, T, h3, h4⟩ := h b hb'
    exact ⟨h1, fun c => hS b c hown (fun _ _ e => by cases e) (h2 c), arr, T, (hw b hown).trans h3, fun j x hj => let ⟨u, hu, hr⟩ := h4 j x hj; ⟨u, hu, hr.mono he⟩⟩
  | map es =>
    intro b hb
    have hb' := hφ b hb
    have hown : owns E H l b := by unfold owns; rw [ho]; exact hb'
    obtain ⟨h1, ms, ck, h3, h4, h5, h6, h7, h8⟩ := h b hb'
    exact ⟨h1, ms, ck, (hw b hown).trans h3, h4, fun j x hj => let ⟨m, hu, hr, hr2⟩ := h5 j x hj; ⟨m, hu, hr, hr2.mono he⟩, h6, h7, fun i x hx => h8 i x (by rw [← hG i]; exact hx)⟩
  | iter m =>
    intro b hb
    have hb' := hφ b hb
    have hown : owns E H l b := by unfold owns; rw [ho]; exact hb'
    obtain ⟨h1, r, ck, h2, h3⟩ := h b hb'
    exact ⟨h1, r, ck, he.φ h2, (hw b hown).trans h3⟩
  | mark k =>
    intro b hb
    have hb' := hφ b hb
    have hown : owns E H l b := by unfold owns; rw [ho]; exact hb'
    obtain ⟨h1, r, h2, h3⟩ := h b hb'
    exact ⟨h1, r, (hw b hown).trans h2, h3⟩
  | tail n sz =>
    obtain ⟨b, c, arr, T, h1, h2, h3, h4, h5, h6, h7, h8⟩ := h
    have hown : owns E H l b := by unfold owns; rw [ho]; exact ⟨c, h1⟩
    exact ⟨b, c, arr, T, (hG n).trans h1, h2, (hw b hown).trans h3, h4, h5, h6, fun o ho => hS b o hown (fun _ _ e => by cases e; exact ho) (h7 o ho), fun m hm => (hG m).trans (h8 m hm)⟩

/-- A new block that is nobody's. -/
theorem Good.push (g : Good E H w0 w) (o : Obj) : Good E H w0 (w.alloc o) where
  below := g.below.alloc g.below.size o
  snap := fun {b c u} h => by
    have hlt := g.Slt h
    rw [cell_same (Below.heap_alloc w o b hlt)]
    exact g.snap h
  obj := fun {l x} h => (g.obj h).step h (.refl E) (fun _ h => h) (fun _ => rfl) (fun _ _ _ _ h => h) (fun b hb => Below.heap_alloc w o b (g.ownlt hb))
  sep := g.sep
  fresh := g.fresh
  φlt := fun {l b} h => by have := g.φlt h; rw [alloc_size]; omega

theorem push_ext (n0 : Nat) (W : Nat → Prop) (g : Good E H w0 w) (o : Obj) : Ext n0 W E H w E H (w.alloc o) :=
  ⟨.refl E, by rw [alloc_size]; omega, Nat.le_refl _, fun _ _ => rfl, fun _ _ ho => Below.heap_alloc w o _ (g.ownlt ho), fun _ => rfl, fun hb h => ⟨Below.heap_alloc w o _ hb, h, fun _ => rfl⟩⟩

def Env.withφ (E : Env) (l b : Nat) : Env := { E with φ := fun x => if x = l then some b else E.φ x }

theorem Env.withφ_le {l b : Nat} (h : E.φ l = none) : E.le (E.withφ l b) :=
  ⟨fun {x c} hx => by
    have : x ≠ l := fun e => by subst e; rw [h] at hx; cases hx
    simpa [Env.withφ, this] using hx, fun h => h, fun h => h⟩

theorem withφ_self (E : Env) (l b : Nat) : (E.withφ l b).φ l = some b := by simp [Env.withφ]
theorem withφ_ne (E : Env) {l b x : Nat} (h : x ≠ l) : (E.withφ l b).φ x = E.φ x := by simp [Env.withφ, h]

/-- What a label owns after another one has been given a block. -/
theorem owns_withφ {l b : Nat} {o : AObj} {x c : Nat} (hx : x < H.length) (hne : x ≠ l) (h : owns (E.withφ l b) (H ++ [o]) x c) : owns E H x c := by
  unfold owns at *
  rw [List.getElem?_append_left hx] at h
  rw [withφ_ne E hne] at h
  exact h

/-- A block that is nobody's is given to a new label. -/
theorem Good.adopt (g : Good E H w0 w) {b : Nat} {o : AObj} (hb : b < w.heap.size) (hfree : ∀ l, ¬ owns E H l b) (hok : ∀ n sz, o ≠ .tail n sz)
    (ho : ObjRel (E.withφ H.length b) H.length o w0.heap.size w) : Good (E.withφ H.length b) (H ++ [o]) w0 w := by
  have hφ := (g.fresh (Nat.le_refl H.length)).1
  have hle : E.le (E.withφ H.length b) := Env.withφ_le hφ
  refine ⟨g.below, g.snap, ?_, ?_, ?_, ?_⟩
  · intro l x h
    by_cases hl : l < H.length
    · rw [List.getElem?_append_left hl] at h
      exact (g.obj h).step h hle (fun c hc => by rwa [withφ_ne E (by omega)] at hc) (fun _ => rfl) (fun _ _ _ _ h => h) (fun _ _ => rfl)
    · have hl' : l = H.length := by
        have := (List.getElem?_eq_some_iff.1 h).1
        simp at this; omega
      subst hl'
      simp at h
      subst h
      exact ho
  · have key : ∀ x c, owns (E.withφ H.length b) (H ++ [o]) x c → (x < H.length ∧ owns E H x c) ∨ (x = H.length ∧ c = b) := by
      intro x c h
      by_cases hx : x < H.length
      · exact .inl ⟨hx, owns_withφ hx (by omega) h⟩
      · have hx' : x = H.length := by
          unfold owns at h
          cases hh : (H ++ [o])[x]? with
          | none => rw [hh] at h; exact h.elim
          | some y =>
            have := (List.getElem?_eq_some_iff.1 hh).1
            simp at this; omega
        refine .inr ⟨hx', ?_⟩
        subst hx'
        unfold owns at h
        simp only [List.getElem?_append_right (Nat.le_refl _), Nat.sub_self, List.getElem?_cons_zero, withφ_self] at h
        cases o with
        | dead => exact h.elim
        | cells cs => simp at h; exact h.symm
        | map es => simp at h; exact h.symm
        | iter m => simp at h; exact h.symm
        | mark k => simp at h; exact h.symm
        | tail n sz => exact absurd rfl (hok n sz)
    intro l l' c h h'
    rcases key _ _ h with ⟨h1, h2⟩ | ⟨h1, h2⟩ <;> rcases key _ _ h' with ⟨h3, h4⟩ | ⟨h3, h4⟩
    · exact g.sep h2 h4
    · subst h4; exact absurd h2 (hfree _)
    · subst h2; exact absurd h4 (hfree _)
    · rw [h1, h3]
  · intro l hl
    simp at hl
    have := g.fresh (l := l) (by omega)
    exact ⟨by rw [withφ_ne E (by omega)]; exact this.1, this.2⟩
  · intro l c h
    by_cases hl : l = H.length
    · subst hl; rw [withφ_self] at h; simp at h; omega
    · rw [withφ_ne E hl] at h; exact g.φlt h

theorem heap_alloc_new (w : World) (o : Obj) : (w.alloc o).heap[w.heap.size]? = some o := by
  show (w.heap.push o)[w.heap.size]? = some o
  simp

theorem S_new_none (g : Good E H w0 w) (c : Nat) : E.S w.heap.size c = none := by
  cases h : E.S w.heap.size c with
  | none => rfl
  | some u => exact absurd (g.Slt h) (Nat.lt_irrefl _)

/-- A new variable. -/
theorem Good.new (g : Good E H w0 w) {cs : List AV} {arr : Array Value} (T : TypeId) (hr : RelCells E cs arr) :
    Good (E.withφ H.length w.heap.size) (H ++ [.cells cs]) w0 (w.alloc (.cells arr T)) := by
  refine (g.push (.cells arr T)).adopt (by rw [alloc_size]; omega) (fun l ho => absurd (g.ownlt ho) (Nat.lt_irrefl _)) (fun _ _ => by simp) ?_
  intro b hb
  rw [withφ_self] at hb
  simp only [Option.some.injEq] at hb
  subst hb
  refine ⟨g.below.size, fun c => S_new_none g c, arr, T, heap_alloc_new w _, fun j x hj => ?_⟩
  obtain ⟨u, hu, h⟩ := hr j x hj
  exact ⟨u, hu, h.mono (Env.withφ_le (g.fresh (Nat.le_refl _)).1)⟩

theorem owns_new (g : Good E H w0 w) {x l b : Nat} {o : AObj} (h : owns (E.withφ H.length x) (H ++ [o]) l b) : owns E H l b ∨ b = x := by
  rcases Nat.lt_trichotomy l H.length with hl | hl | hl
  · refine .inl ?_
    have e : (E.withφ H.length x).φ l = E.φ l := withφ_ne E (by omega)
    unfold owns at h ⊢
    rw [List.getElem?_append_left hl] at h
    cases ho : H[l]? with
    | none => rw [ho] at h; exact h
    | some q =>
      rw [ho] at h
      cases q with
      | dead => exact h
      | cells cs => exact e.symm.trans h
      | tail n sz => exact h
      | map es => exact e.symm.trans h
      | iter m => exact e.symm.trans h
      | mark k => exact e.symm.trans h
  · subst hl
    refine .inr ?_
    have e : (E.withφ H.length x).φ H.length = some x := withφ_self _ _ _
    unfold owns at h
    rw [List.getElem?_append_right (Nat.le_refl _), Nat.sub_self, List.getElem?_cons_zero] at h
    cases o with
    | dead => exact h.elim
    | cells cs => exact (Option.some.inj (e.symm.trans h)).symm
    | tail n sz => obtain ⟨c, hc⟩ := h; exact absurd ((g.fresh (Nat.le_refl _)).2 n) (by intro e'; have hc' : E.G H.length n = some (b, c) := hc; rw [e'] at hc'; cases hc')
    | map es => exact (Option.some.inj (e.symm.trans h)).symm
    | iter m => exact (Option.some.inj (e.symm.trans h)).symm
    | mark k => exact (Option.some.inj (e.symm.trans h)).symm
  · unfold owns at h
    rw [List.getElem?_eq_none (by simp; omega)] at h
    exact h.elim

theorem new_ext (n0 : Nat) (W : Nat → Prop) (hn : n0 ≤ H.length) (g : Good E H w0 w) (o : Obj) (ob : AObj) : Ext n0 W E H w (E.withφ H.length w.heap.size) (H ++ [ob]) (w.alloc o) :=
  ⟨Env.withφ_le (g.fresh (Nat.le_refl _)).1, by rw [alloc_size]; omega, by simp, fun hl _ => List.getElem?_append_left (by omega), fun _ _ ho => Below.heap_alloc w o _ (g.ownlt ho), fun {l} hl => withφ_ne E (by omega),
   fun {b} hb h => ⟨Below.heap_alloc w o _ hb, fun l ho => (owns_new g ho).elim (h l) (fun e => by omega), fun _ => rfl⟩⟩

def Env.withS (E : Env) (b : Nat) (f : Nat → Option Value) : Env := { E with S := fun x o => if x = b then (E.S b o).or (f o) else E.S x o }

theorem withS_le (E : Env) (b : Nat) (f : Nat → Option Value) : E.le (E.withS b f) :=
  ⟨fun h => h, fun {x o u} h => by
    by_cases hx : x = b
    · subst hx; simp [Env.withS, h]
    · simpa [Env.withS, hx] using h, fun h => h⟩

/-- Cells of a block that no label owns are said to stay. -/
theorem Good.stay (g : Good E H w0 w) {b : Nat} {f : Nat → Option Value} (hfree : ∀ l, ¬ owns E H l b) (hf : ∀ o u, f o = some u → w.cell? ⟨b, o, none⟩ = some u) : Good (E.withS b f) H w0 w := by
  refine ⟨g.below, ?_, ?_, g.sep, g.fresh, g.φlt⟩
  · intro x o u h
    by_cases hx : x = b
    · subst hx
      simp only [Env.withS, if_true] at h
      cases hs : E.S x o with
      | none => rw [hs] at h; exact hf o u (by simpa using h)
      | some v => rw [hs] at h; simp at h; subst h; exact g.snap hs
    · simp only [Env.withS, hx, if_false] at h; exact g.snap h
  · intro l o h
    refine (g.obj h).step h (withS_le E b f) (fun _ h => h) (fun _ => rfl) (fun c o ho _ hn => ?_) (fun _ _ => rfl)
    have : c ≠ b := fun e => hfree l (e ▸ ho)
    simpa [Env.withS, this] using hn

/-- A new block all of whose cells stay. -/
theorem Good.row (g : Good E H w0 w) (arr : Array Value) (T : TypeId) : Good (E.withS w.heap.size (arr[·]?)) H w0 (w.alloc (.cells arr T)) :=
  (g.push _).stay (fun l ho => absurd (g.ownlt ho) (Nat.lt_irrefl _)) (fun o u h => by rw [cell_at (heap_alloc_new w _)]; exact h)

theorem row_ext (n0 : Nat) (W : Nat → Prop) (g : Good E H w0 w) (arr : Array Value) (T : TypeId) : Ext n0 W E H w (E.withS w.heap.size (arr[·]?)) H (w.alloc (.cells arr T)) :=
  ⟨withS_le E _ _, by rw [alloc_size]; omega, Nat.le_refl _, fun _ _ => rfl, fun _ _ ho => Below.heap_alloc w _ _ (g.ownlt ho), fun _ => rfl,
   fun {x} hx h => ⟨Below.heap_alloc w _ _ hx, h, fun o => (by have hx' : x ≠ w.heap.size := (by omega); simp [Env.withS, hx'])⟩⟩

theorem row_S (g : Good E H w0 w) (arr : Array Value) (o : Nat) : (E.withS w.heap.size (arr[·]?)).S w.heap.size o = arr[o]? := by
  simp [Env.withS, S_new_none g]

/-- A store. -/
theorem Good.set (g : Good E H w0 w) {l b j : Nat} {cs : List AV} {x y : AV} {v : Value} (hl : H[l]? = some (.cells cs)) (hb : E.φ l = some b) (hj : cs[j]? = some y) (hv : Rel E x v) :
    Good E (H.set l (.cells (cs.set j x))) w0 (w.setCell ⟨b, j, none⟩ v) ∧ w.cell? ⟨b, j, none⟩ ≠ none ∧ w.frozen? ⟨b, j, none⟩ = false := by
  have hown : owns E H l b := by unfold owns; rw [hl]; exact hb
  obtain ⟨h1, h2, arr, T, h3, h4⟩ := g.obj hl b hb
  have hlt : l < H.length := (List.getElem?_eq_some_iff.1 hl).1
  have owns_set : ∀ (cs' : List AV) (z c : Nat), owns E (H.set l (.cells cs')) z c ↔ owns E H z c := by
    intro cs' z c
    by_cases hz : l = z
    · subst hz
      unfold owns
      rw [List.getElem?_set_self hlt, hl]
    · unfold owns
      rw [List.getElem?_set_ne hz]
  obtain ⟨u, hu, _⟩ := h4 j y hj
  have hjlt : j < arr.size := (Array.getElem?_eq_some_iff.1 hu).1
  refine ⟨⟨g.below.setCell h1 v, ?_, ?_, ?_, ?_, ?_⟩, ?_, frozen_at h3⟩
  · intro c o t h
    have hne : c ≠ b := fun e => by subst e; rw [h2 o] at h; cases h
    rw [cell_same (Below.heap_setCell w ⟨b, j, none⟩ v c hne)]
    exact g.snap h
  · intro z o h
    by_cases hz : l = z
    · subst hz
      rw [List.getElem?_set_self hlt] at h
      simp only [Option.some.injEq] at h
      subst h
      intro c hc
      rw [hb] at hc
      simp only [Option.some.injEq] at hc
      subst hc
      refine ⟨h1, h2, arr.setIfInBounds j v, T, ?_, fun i t hi => ?_⟩
      · simp [World.setCell, Array.getElem?_modify, h3]
      · by_cases hij : j = i
        · subst hij
          rw [List.getElem?_set_self (List.getElem?_eq_some_iff.1 hj).1] at hi
          simp only [Option.some.injEq] at hi
          subst hi
          exact ⟨v, by simp [hjlt], hv⟩
        · rw [List.getElem?_set_ne hij] at hi
          obtain ⟨u, hu, hr⟩ := h4 i t hi
          exact ⟨u, by rw [Array.getElem?_setIfInBounds_ne hij]; exact hu, hr⟩
    · rw [List.getElem?_set_ne hz] at h
      refine (g.obj h).step h (.refl E) (fun _ h => h) (fun _ => rfl) (fun _ _ _ _ h => h) (fun c hc => ?_)
      refine Below.heap_setCell w ⟨b, j, none⟩ v c (fun e => hz ?_)
      simp only at e
      subst e
      exact g.sep hown hc
  · intro z z' c h h'
    exact g.sep ((owns_set _ _ _).1 h) ((owns_set _ _ _).1 h')
  · intro z hz; exact g.fresh (by simpa using hz)
  · intro z c h
    have := g.φlt h
    simpa [World.setCell] using this
  · rw [cell_at h3, hu]; simp

theorem set_ext {n0 : Nat} {W : Nat → Prop} (g : Good E H w0 w) {l b j : Nat} {cs cs' : List AV} {v : Value} (hW : l < n0 → W l) (hl : H[l]? = some (.cells cs)) (hb : E.φ l = some b) :
    Ext n0 W E H w E (H.set l (.cells cs')) (w.setCell ⟨b, j, none⟩ v) := by
  have hown : owns E H l b := by unfold owns; rw [hl]; exact hb
  refine ⟨.refl E, by simp [World.setCell], by simp, fun {z} hz hw => ?_, fun {z c} hz hw ho => ?_, fun _ => rfl, fun {c} hc h => ⟨Below.heap_setCell w ⟨b, j, none⟩ v c (fun e => by simp only at e; subst e; exact h _ hown), fun z ho => h z ?_, fun _ => rfl⟩⟩
  · have : l ≠ z := fun e => hw (e ▸ hW (e ▸ hz))
    exact List.getElem?_set_ne this
  · refine Below.heap_setCell w ⟨b, j, none⟩ v c (fun e => ?_)
    simp only at e
    subst e
    have := g.sep ho hown
    subst this
    exact hw (hW hz)
  · unfold owns at ho ⊢
    by_cases hz : l = z
    · subst hz
      rw [List.getElem?_set_self (List.getElem?_eq_some_iff.1 hl).1] at ho
      rw [hl]; exact ho
    · rwa [List.getElem?_set_ne hz] at ho
end
end Go.Proofs.YtiipaliigpkfhaaGreat.Ab
