/- Part 8: append. -/
import Derived.Test.YtiipaliigpkfhaaGreatA7
set_option linter.unusedVariables false
set_option linter.unusedSimpArgs false
namespace Go.Proofs.YtiipaliigpkfhaaGreat.Ab
open Go Go.RowKit

/-! ### The source -/
def strEl (s : ByteArray) : Nat → List AV := fun i => [.sc (.int .u8 ((s.data.toList.getD i 0).toNat : Int))]

def srcA (sz : Nat) : AV → Option (Nat × (Nat → List AV))
  | .rsl _ sz' m el _ => if m = 0 ∨ sz' = sz then some (m, el) else none
  | .sc (.string s) => if sz = 1 then some (s.size, strEl s) else none
  | _ => none

theorem cells_of_slice {E : Env} {w0 w : World} {H : AHeap} (hg : Good E H w0 w) {sz n : Nat} {el : Nat → List AV} {b off : Nat} {u : Nat → Nat → Value}
    (hl : ∀ i, i < n → (el i).length = sz) (h : ∀ i, i < n → ∀ j x, (el i)[j]? = some x → E.S b (off + i * sz + j) = some (u i j)) :
    ∀ (j : Nat) (v : Value), ((List.range (n * sz)).map fun k => u (k / sz) (k % sz))[j]? = some v → E.S b (off + j) = some v := by
  intro j v hj
  rw [List.getElem?_map] at hj
  cases hr : (List.range (n * sz))[j]? with
  | none => rw [hr] at hj; cases hj
  | some k =>
    rw [hr] at hj
    simp only [Option.map_some, Option.some.injEq] at hj
    have hjm : j < n * sz := by simpa using (List.getElem?_eq_some_iff.1 hr).1
    have hk : k = j := by
      have := List.getElem?_range hjm
      rw [hr] at this
      simpa using this
    subst hk
    have hsz : 0 < sz := by
      rcases Nat.eq_zero_or_pos sz with h0 | h0
      · subst h0; simp at hjm
      · exact h0
    have hi : k / sz < n := (Nat.div_lt_iff_lt_mul hsz).2 hjm
    have hm : k % sz < (el (k / sz)).length := by rw [hl _ hi]; exact Nat.mod_lt _ hsz
    have := h _ hi (k % sz) _ (List.getElem?_eq_getElem hm)
    rw [show off + k = off + k / sz * sz + k % sz by have := Nat.div_add_mod k sz; rw [Nat.mul_comm] at this; omega]
    rw [this, hj]

theorem range_getD {n sz i j : Nat} {u : Nat → Nat → Value} (hi : i < n) (hj : j < sz) : ((List.range (n * sz)).map fun k => u (k / sz) (k % sz)).getD (i * sz + j) undef = u i j := by
  have h1 : (i + 1) * sz ≤ n * sz := Nat.mul_le_mul_right _ hi
  rw [Nat.add_mul] at h1
  have hlt : i * sz + j < n * sz := by omega
  rw [List.getD_eq_getElem?_getD, List.getElem?_map, List.getElem?_range hlt]
  simp only [Option.map_some, Option.getD_some]
  have hd : (i * sz + j) / sz = i := by
    rw [Nat.mul_comm, Nat.mul_add_div (by omega), Nat.div_eq_of_lt hj]
    simp
  have hm : (i * sz + j) % sz = j := by
    rw [Nat.mul_comm, Nat.mul_add_mod, Nat.mod_eq_of_lt hj]
  rw [hd, hm]

/-- What the source gives. -/
theorem src_run {P : Program} {E : Env} {w0 w : World} {H : AHeap} (hg : Good E H w0 w) {sz m : Nat} {x : AV} {v : Value} {el : Nat → List AV} (hr : Rel E x v) (h : srcA sz x = some (m, el)) :
    (Builtin.lenOf v).run P w = .ok m w ∧ ∃ us : List Value, us.length = m * sz ∧ (Builtin.firstCells sz m v).run P w = .ok us.toArray w ∧
      (∀ i, i < m → (el i).length = sz ∧ ∀ x, x ∈ el i → oneC x = true) ∧ ∀ i, i < m → ∀ j x, (el i)[j]? = some x → Rel E.data x (us.getD (i * sz + j) undef) := by
  cases hr with
  | rnil sz' el' own hown =>
    simp only [srcA, true_or, if_true, Option.some.injEq, Prod.mk.injEq] at h
    obtain ⟨rfl, rfl⟩ := h
    exact ⟨rfl, [], (Nat.zero_mul _).symm, rfl, fun i hi => by omega, fun i hi => by omega⟩
  | rodd sz' el' own a hown =>
    simp only [srcA, true_or, if_true, Option.some.injEq, Prod.mk.injEq] at h
    obtain ⟨rfl, rfl⟩ := h
    exact ⟨rfl, [], (Nat.zero_mul _).symm, by simp [Builtin.firstCells, loadCells, loadCellsFrom, Sem.run], fun i hi => by omega, fun i hi => by omega⟩
  | rsl sz' n el' own b off c u hn ho hc hl h1 hS hk =>
    simp only [srcA] at h
    split at h
    · rename_i hsz
      simp only [Option.some.injEq, Prod.mk.injEq] at h
      obtain ⟨rfl, rfl⟩ := h
      rcases Nat.eq_zero_or_pos n with h0 | h0
      · subst h0
        refine ⟨rfl, [], by simp, ?_, fun i hi => by omega, fun i hi => by omega⟩
        simp [Builtin.firstCells, loadCells, loadCellsFrom, Sem.run]
      · have : sz' = sz := by omega
        subst this
        refine ⟨rfl, (List.range (n * sz')).map fun k => u (k / sz') (k % sz'), by simp, ?_, fun i hi => ⟨hl i hi, h1 i hi⟩, fun i hi j x hj => ?_⟩
        · have := loadCellsFrom_run (P := P) (w := w) (b := b) (off := off) (n * sz') 0 #[] ((List.range (n * sz')).map fun k => u (k / sz') (k % sz')) (by simp) (fun j v hj => by
            rw [Nat.zero_add]
            exact hg.snap (cells_of_slice hg hl hS j v hj))
          simp only [Builtin.firstCells, loadCells, this]
          rw [Array.empty_append]
        · rw [range_getD hi (by rw [← hl i hi]; exact (List.getElem?_eq_some_iff.1 hj).1)]
          exact hk i hi j x hj
    · cases h
  | sc v hp =>
    cases v with
    | string s =>
      simp only [srcA] at h
      split at h
      · rename_i hsz
        subst hsz
        simp only [Option.some.injEq, Prod.mk.injEq] at h
        obtain ⟨rfl, rfl⟩ := h
        refine ⟨rfl, s.data.toList.map fun b => .int .u8 b.toNat, by simp, ?_, fun i hi => ⟨rfl, fun x hx => by simp [strEl] at hx; subst hx; rfl⟩, fun i hi j x hj => ?_⟩
        · have e : s.extract 0 s.size = s := by simp
          simp only [Builtin.firstCells, e, Sem.run_pure]
          congr 1
          apply Array.ext'
          simp
        · cases j with
          | succ j => simp [strEl] at hj
          | zero =>
            simp [strEl] at hj
            subst hj
            have hi' : i < s.data.toList.length := by simpa using hi
            have e : (s.data.toList.map fun b => Value.int .u8 (b.toNat : Int)).getD (i * 1 + 0) undef = .int .u8 ((s.data.toList.getD i 0).toNat : Int) := by
              simp only [Nat.mul_one, Nat.add_zero, List.getD_eq_getElem?_getD, List.getElem?_map]
              rw [List.getElem?_eq_getElem hi']
              rfl
            rw [e]
            have e2 : s.data[i]?.getD 0 = s.data.toList.getD i 0 := by simp
            rw [e2]
            exact Rel.sc (.int .u8 _) rfl
      · cases h
    | _ => simp [srcA] at h
  | _ => simp [srcA] at h

/-! ### The tail's record is written anew -/
def setL (H : AHeap) (t : Nat) (o : AObj) : AHeap := if t < H.length then H.set t o else H ++ [o]

def Env.grown (E : Env) (b : Nat) (arr : Array Value) (k t n c : Nat) : Env :=
  { φ := E.φ, S := fun x o => if x = b then (E.S b o).or (if o < k then arr[o]? else none) else E.S x o, G := fun x m => if x = t ∧ m = n then some (b, c) else E.G x m }

section
variable {E : Env} {H : AHeap} {w0 w : World}

theorem grown_le {b k t n c : Nat} {arr : Array Value} (h : E.G t n = none) : E.le (E.grown b arr k t n c) :=
  ⟨fun h => h, fun {x o u} hs => by
    by_cases hx : x = b
    · subst hx; simp [Env.grown, hs]
    · simpa [Env.grown, hx] using hs,
   fun {x m y} hx => by
    have : ¬ (x = t ∧ m = n) := fun ⟨e1, e2⟩ => by subst e1; subst e2; rw [h] at hx; cases hx
    simpa [Env.grown, this] using hx⟩

theorem setL_self {t : Nat} {o : AObj} (ht : t ≤ H.length) : (setL H t o)[t]? = some o := by
  unfold setL
  split
  · rename_i h; exact List.getElem?_set_self h
  · have : t = H.length := by omega
    subst this
    simp

theorem setL_ne {t l : Nat} {o : AObj} (ht : t ≤ H.length) (h : l ≠ t) : (setL H t o)[l]? = H[l]? := by
  unfold setL
  split
  · exact List.getElem?_set_ne (Ne.symm h)
  · have : t = H.length := by omega
    subst this
    rcases Nat.lt_or_ge l H.length with hl | hl
    · exact List.getElem?_append_left hl
    · rw [List.getElem?_eq_none (by simp; omega), List.getElem?_eq_none hl]

theorem setL_length {t : Nat} {o : AObj} (ht : t ≤ H.length) : (setL H t o).length = if t < H.length then H.length else H.length + 1 := by
  unfold setL
  split <;> simp

theorem Good.retail (hg : Good E H w0 w) {t n sz b c : Nat} {arr : Array Value} {T : TypeId} (ht : t ≤ H.length) (hfree : ∀ l, owns E H l b → l = t) (hbase : w0.heap.size ≤ b) (hb : w.heap[b]? = some (.cells arr T (0, 0))) (hsz : arr.size = c * sz)
    (hnc : n ≤ c) (hcm : c ≤ maxLen) (hS : ∀ o, n * sz ≤ o → E.S b o = none) (hG : ∀ m, n ≤ m → E.G t m = none) : Good (E.grown b arr (n * sz) t n c) (setL H t (.tail n sz)) w0 w := by
  have hle : E.le (E.grown b arr (n * sz) t n c) := grown_le (hG n (Nat.le_refl _))
  refine ⟨hg.below, ?_, ?_, ?_, ?_, hg.φlt⟩
  · intro x o u h
    by_cases hx : x = b
    · subst hx
      simp only [Env.grown, if_true] at h
      cases hs : E.S x o with
      | none =>
        rw [hs] at h
        simp only [Option.none_or] at h
        split at h
        · rw [cell_at hb]; exact h
        · cases h
      | some v => rw [hs] at h; simp at h; subst h; exact hg.snap hs
    · simp only [Env.grown, hx, if_false] at h; exact hg.snap h
  · intro l o h
    by_cases hl : l = t
    · subst hl
      rw [setL_self ht] at h
      simp only [Option.some.injEq] at h
      subst h
      refine ⟨b, c, arr, T, by simp [Env.grown], hbase, hb, hsz, hnc, hcm, fun o ho => ?_, fun m hm => ?_⟩
      · simp only [Env.grown, if_true, hS o ho, Option.none_or]
        rw [if_neg (by omega)]
      · simp only [Env.grown]
        rw [if_neg (by omega)]
        exact hG m (by omega)
    · rw [setL_ne ht hl] at h
      refine (hg.obj h).step h hle (fun _ h => h) (fun m => ?_) (fun x o' ho _ hn => ?_) (fun _ _ => rfl)
      · simp [Env.grown, hl]
      · have : x ≠ b := fun e => hl (hfree l (e ▸ ho))
        simpa [Env.grown, this] using hn
  · have key : ∀ l x, owns (E.grown b arr (n * sz) t n c) (setL H t (.tail n sz)) l x → (l = t ∧ x = b) ∨ (l ≠ t ∧ owns E H l x) := by
      intro l x h
      by_cases hl : l = t
      · subst hl
        unfold owns at h
        rw [setL_self ht] at h
        obtain ⟨c', hc'⟩ := h
        simp [Env.grown] at hc'
        exact .inl ⟨rfl, hc'.1.symm⟩
      · refine .inr ⟨hl, ?_⟩
        unfold owns at *
        rw [setL_ne ht hl] at h
        cases ho : H[l]? with
        | none => rw [ho] at h; exact h
        | some o =>
          rw [ho] at h
          cases o with
          | dead => exact h
          | cells cs => exact h
          | map es => exact h
          | iter m => exact h
          | mark k => exact h
          | tail n' sz' => obtain ⟨c', hc'⟩ := h; exact ⟨c', by simpa [Env.grown, hl] using hc'⟩
    intro l l' x h h'
    rcases key _ _ h with ⟨h1, h2⟩ | ⟨h1, h2⟩ <;> rcases key _ _ h' with ⟨h3, h4⟩ | ⟨h3, h4⟩
    · rw [h1, h3]
    · subst h2; exact absurd (hfree _ h4) h3
    · subst h4; exact absurd (hfree _ h2) h1
    · exact hg.sep h2 h4
  · intro l hl
    have hl' : H.length ≤ l ∧ l ≠ t := by
      rw [setL_length ht] at hl
      split at hl <;> omega
    have := hg.fresh hl'.1
    exact ⟨this.1, fun m => by simp [Env.grown, hl'.2, this.2 m]⟩

theorem owns_retail {t n sz b c k l x : Nat} {arr : Array Value} (ht : t ≤ H.length) (h : owns (E.grown b arr k t n c) (setL H t (.tail n sz)) l x) : owns E H l x ∨ x = b := by
  by_cases hl : l = t
  · subst hl
    refine .inr ?_
    unfold owns at h
    rw [setL_self ht] at h
    obtain ⟨c', hc⟩ := h
    simp [Env.grown] at hc
    exact hc.1.symm
  · refine .inl ?_
    unfold owns at h ⊢
    rw [setL_ne ht hl] at h
    cases ho : H[l]? with
    | none => rw [ho] at h; exact h
    | some q =>
      rw [ho] at h
      cases q with
      | dead => exact h
      | cells cs => exact h
      | tail n' sz' => obtain ⟨c', hc⟩ := h; exact ⟨c', by simpa [Env.grown, hl] using hc⟩
      | map es => exact h
      | iter m => exact h
      | mark k => exact h

theorem retail_ext {n0 : Nat} {W : Nat → Prop} {t n sz b c k : Nat} {arr : Array Value} (hown : owns E H t b) (ht : t ≤ H.length) (hW : t < n0 → W t) (hn0 : n0 ≤ H.length) (hG : E.G t n = none) : Ext n0 W E H w (E.grown b arr k t n c) (setL H t (.tail n sz)) w :=
  ⟨grown_le hG, Nat.le_refl _, by rw [setL_length ht]; split <;> omega, fun {l} hl hw => setL_ne ht (fun e => hw (e ▸ hW (e ▸ hl))), fun _ _ _ => rfl, fun _ => rfl, fun {x} hx h => ⟨rfl, fun l ho => (owns_retail ht ho).elim (h l) (fun e => h t (e ▸ hown)), fun o => (by have hx' : x ≠ b := (fun e => h t (e ▸ hown)); simp [Env.grown, hx'])⟩⟩

theorem new_retail_ext {n0 : Nat} {W : Nat → Prop} {t n sz c k : Nat} {arr : Array Value} (g : Good E H w0 w) (ob : Obj) (ht : t ≤ H.length) (hW : t < n0 → W t) (hn0 : n0 ≤ H.length) (hG : E.G t n = none) : Ext n0 W E H w (E.grown w.heap.size arr k t n c) (setL H t (.tail n sz)) (w.alloc ob) :=
  ⟨grown_le hG, by rw [alloc_size]; omega, by rw [setL_length ht]; split <;> omega, fun {l} hl hw => setL_ne ht (fun e => hw (e ▸ hW (e ▸ hl))), fun _ _ ho => Below.heap_alloc w ob _ (g.ownlt ho), fun _ => rfl,
   fun {x} hx h => ⟨Below.heap_alloc w ob _ hx, fun l ho => (owns_retail ht ho).elim (h l) (fun e => by omega), fun o => (by have hx' : x ≠ w.heap.size := (by omega); simp [Env.grown, hx'])⟩⟩

/-- What the new row reads as. -/
theorem grown_rel {t n m sz b c : Nat} {arr : Array Value} {el el2 : Nat → List AV} {us vs : List Value} (hG : E.G t (n + m) = none) (hcm : c ≤ maxLen) (hnc : n + m ≤ c)
    (hS : ∀ o, E.S b o ≠ none → E.S b o = arr[o]?)
    (hu : us.length = n * sz) (hv : vs.length = m * sz) (harr : ∀ j, j < (n + m) * sz → arr[j]? = (us ++ vs)[j]?)
    (h1 : ∀ i, i < n → (el i).length = sz ∧ ∀ x, x ∈ el i → oneC x = true) (k1 : ∀ i, i < n → ∀ j x, (el i)[j]? = some x → Rel E.data x (us.getD (i * sz + j) undef))
    (h2 : ∀ i, i < m → (el2 i).length = sz ∧ ∀ x, x ∈ el2 i → oneC x = true) (k2 : ∀ i, i < m → ∀ j x, (el2 i)[j]? = some x → Rel E.data x (vs.getD (i * sz + j) undef)) :
    Rel (E.grown b arr ((n + m) * sz) t (n + m) c) (.rsl false sz (n + m) (fun i => if i < n then el i else el2 (i - n)) (.tok t)) (.slice (some ⟨b, 0, none⟩) (n + m) c) := by
  have hle : E.le (E.grown b arr ((n + m) * sz) t (n + m) c) := grown_le hG
  have hmul : (n + m) * sz = n * sz + m * sz := Nat.add_mul _ _ _
  refine .rsl sz (n + m) _ (.tok t) b 0 c (fun i j => (us ++ vs).getD (i * sz + j) undef) hcm ⟨by simp [Env.grown], rfl, hnc⟩ hnc (fun i hi => ?_) (fun i hi x hx => ?_) (fun i hi j x hj => ?_) (fun i hi j x hj => ?_)
  · split
    · exact (h1 i ‹_›).1
    · exact (h2 (i - n) (by omega)).1
  · split at hx
    · exact (h1 i ‹_›).2 x hx
    · exact (h2 (i - n) (by omega)).2 x hx
  · have hjs : j < sz := by
      have := (List.getElem?_eq_some_iff.1 hj).1
      split at this
      · rw [(h1 i ‹_›).1] at this; exact this
      · rw [(h2 (i - n) (by omega)).1] at this; exact this
    have hlt : i * sz + j < (n + m) * sz := by
      have : (i + 1) * sz ≤ (n + m) * sz := Nat.mul_le_mul_right _ hi
      rw [Nat.add_mul] at this
      omega
    have ha := harr _ hlt
    have hg : (us ++ vs)[i * sz + j]? = some ((us ++ vs).getD (i * sz + j) undef) := by
      have : i * sz + j < (us ++ vs).length := by rw [List.length_append, hu, hv]; omega
      rw [List.getD_eq_getElem?_getD, List.getElem?_eq_getElem this]
      rfl
    rw [Nat.zero_add]
    simp only [Env.grown, if_true]
    cases hs : E.S b (i * sz + j) with
    | none => simp only [Option.none_or, if_pos hlt]; rw [ha, hg]
    | some u =>
      have := hS (i * sz + j) (by rw [hs]; simp)
      rw [hs, ha, hg] at this
      simp only [Option.some_or]
      exact this
  · refine Rel.mono ?_ hle.data
    split at hj
    · have hjs : j < sz := by rw [← (h1 i ‹_›).1]; exact (List.getElem?_eq_some_iff.1 hj).1
      have hlt : i * sz + j < us.length := by
        have : (i + 1) * sz ≤ n * sz := Nat.mul_le_mul_right _ ‹_›
        rw [Nat.add_mul] at this
        omega
      rw [List.getD_eq_getElem?_getD, List.getElem?_append_left hlt, ← List.getD_eq_getElem?_getD]
      exact k1 i ‹_› j x hj
    · have hin : i - n < m := by omega
      have hge : us.length ≤ i * sz + j := by
        have : n * sz ≤ i * sz := Nat.mul_le_mul_right _ (by omega)
        omega
      rw [List.getD_eq_getElem?_getD, List.getElem?_append_right hge, ← List.getD_eq_getElem?_getD]
      have e : i * sz + j - us.length = (i - n) * sz + j := by
        rw [hu, Nat.sub_mul]
        have : n * sz ≤ i * sz := Nat.mul_le_mul_right _ (by omega)
        omega
      rw [e]
      exact k2 _ hin j x hj
end
end Go.Proofs.YtiipaliigpkfhaaGreat.Ab
