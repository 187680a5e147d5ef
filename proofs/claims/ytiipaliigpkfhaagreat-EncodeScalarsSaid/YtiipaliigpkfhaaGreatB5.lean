/- Part 14: a region whose order is open: carried out in any order that its edges allow, it comes to what the order of the text comes to. -/
import Derived.Test.YtiipaliigpkfhaaGreatB4
set_option linter.unusedVariables false
set_option linter.unusedSimpArgs false
namespace Go.Proofs.YtiipaliigpkfhaaGreat.Ab
open Go Go.RowKit

/-! ### What comes ahead of what -/
def maskOf (o : Oper) (acc : List Nat) : Nat := o.after.toList.foldl (fun s e => if Region.binds .any e then s ||| (2 ^ e.on ||| acc.getD e.on 0) else s) 0
def masksGo : List Oper → List Nat → List Nat
  | [], acc => acc
  | o :: r, acc => masksGo r (acc ++ [maskOf o acc])
def masks (ops : Array Oper) : List Nat := masksGo ops.toList []
/-- a comes ahead of b. -/
def lt (M : List Nat) (a b : Nat) : Bool := (M.getD b 0).testBit a

theorem masksGo_append (r : List Oper) : ∀ acc : List Nat, ∃ t, masksGo r acc = acc ++ t ∧ t.length = r.length := by
  induction r with
  | nil => exact fun acc => ⟨[], by simp [masksGo], rfl⟩
  | cons o r ih =>
    intro acc
    obtain ⟨t, h, hl⟩ := ih (acc ++ [maskOf o acc])
    exact ⟨maskOf o acc :: t, by rw [masksGo, h]; simp, by simp [hl]⟩

theorem masksGo_get : ∀ (r : List Oper) (acc : List Nat) (k : Nat) (o : Oper), r[k]? = some o → (masksGo r acc).getD (acc.length + k) 0 = maskOf o ((masksGo r acc).take (acc.length + k)) := by
  intro r
  induction r with
  | nil => intro acc k o h; simp at h
  | cons p r ih =>
    intro acc k o h
    cases k with
    | zero =>
      simp at h
      subst h
      rw [masksGo]
      obtain ⟨t, ht, _⟩ := masksGo_append r (acc ++ [maskOf p acc])
      rw [ht]
      simp [List.getD_eq_getElem?_getD]
    | succ k =>
      have := ih (acc ++ [maskOf p acc]) k o (by simpa using h)
      rw [masksGo]
      rw [show acc.length + (k + 1) = (acc ++ [maskOf p acc]).length + k by simp; omega]
      exact this

theorem fold_bit (acc : List Nat) (a : Nat) : ∀ (es : List Edge) (s : Nat), (es.foldl (fun s e => if Region.binds .any e then s ||| (2 ^ e.on ||| acc.getD e.on 0) else s) s).testBit a = true →
    s.testBit a = true ∨ ∃ e ∈ es, Region.binds .any e = true ∧ (a = e.on ∨ (acc.getD e.on 0).testBit a = true) := by
  intro es
  induction es with
  | nil => exact fun s h => .inl h
  | cons e r ih =>
    intro s h
    rw [List.foldl_cons] at h
    rcases ih _ h with h1 | ⟨e', he, hb, hx⟩
    · by_cases hb : Region.binds .any e = true
      · rw [if_pos hb, Nat.testBit_or, Bool.or_eq_true, Nat.testBit_or, Bool.or_eq_true] at h1
        rcases h1 with h1 | h1 | h1
        · exact .inl h1
        · refine .inr ⟨e, List.mem_cons_self, hb, .inl ?_⟩
          rw [Nat.testBit_two_pow] at h1
          have := of_decide_eq_true h1
          omega
        · exact .inr ⟨e, List.mem_cons_self, hb, .inr h1⟩
      · rw [if_neg hb] at h1
        exact .inl h1
    · exact .inr ⟨e', List.mem_cons_of_mem _ he, hb, hx⟩

theorem lt_edge {ops : Array Oper} {a b : Nat} {o : Oper} (ho : ops[b]? = some o) (h : lt (masks ops) a b = true) : ∃ e ∈ o.after, Region.binds .any e = true ∧ (a = e.on ∨ (e.on < b ∧ lt (masks ops) a e.on = true)) := by
  unfold lt masks at h
  have hg := masksGo_get ops.toList [] b o (by simpa using ho)
  simp only [List.length_nil, Nat.zero_add] at hg
  rw [hg] at h
  rcases fold_bit _ a _ 0 h with h1 | ⟨e, he, hb, hx⟩
  · simp at h1
  · refine ⟨e, by simpa using he, hb, ?_⟩
    rcases hx with hx | hx
    · exact .inl hx
    · rcases Nat.lt_or_ge e.on b with hlt | hge
      · refine .inr ⟨hlt, ?_⟩
        unfold lt masks
        rw [List.getD_eq_getElem?_getD, List.getElem?_take, if_pos hlt, ← List.getD_eq_getElem?_getD] at hx
        exact hx
      · rw [List.getD_eq_getElem?_getD, List.getElem?_take, if_neg (by omega)] at hx
        simp at hx

/-- What is listed is closed. -/
def Closed (ops : Array Oper) (C : Nat → Bool) : Prop := ∀ b o, ops[b]? = some o → C b = true → ∀ e ∈ o.after, Region.binds .any e = true → C e.on = true

theorem lt_closed {ops : Array Oper} {C : Nat → Bool} (hc : Closed ops C) : ∀ (b : Nat), b < ops.size → C b = true → ∀ a, lt (masks ops) a b = true → C a = true := by
  intro b
  induction b using Nat.strongRecOn with
  | _ b ih =>
    intro hb hC a hl
    have ho : ops[b]? = some ops[b] := by simp [hb]
    obtain ⟨e, he, hbi, hx⟩ := lt_edge ho hl
    have := hc b _ ho hC e he hbi
    rcases hx with rfl | ⟨h1, h2⟩
    · exact this
    · exact ih e.on h1 (by omega) this a h2

/-- The same, of what may come next. -/
theorem lt_ready {ops : Array Oper} {C : Nat → Bool} (hc : Closed ops C) {b : Nat} {o : Oper} (ho : ops[b]? = some o) (hr : ∀ e ∈ o.after, Region.binds .any e = true → C e.on = true) (a : Nat) (h : lt (masks ops) a b = true) : C a = true := by
  obtain ⟨e, he, hbi, hx⟩ := lt_edge ho h
  have hb := (Array.getElem?_eq_some_iff.1 ho).1
  rcases hx with rfl | ⟨h1, h2⟩
  · exact hr e he hbi
  · exact lt_closed hc e.on (by omega) (hr e he hbi) a h2

/-! ### Slots -/
/-- What an operation looks at or writes. -/
def looks (ops : Array Oper) (o : Oper) : List Nat :=
  o.dst.toList ++ (o.op.operands.toList.filterMap fun | .tmp t => some t | _ => none) ++ (match o.guard with
    | some (j, _) => ((ops[j]?).bind (·.dst)).toList
    | none => [])

/-- Slots under C: who is in C has written. -/
def foldC (ops : Array Oper) (x : Nat → AV) (C : Nat → Bool) : List Nat → List AV → List AV
  | [], T => T
  | i :: r, T => foldC ops x C r (if C i then (match ops[i]? with | some o => putA T o.dst (x i) | none => T) else T)

theorem putA_length (T : List AV) (d : Option Tmp) (x : AV) : (putA T d x).length = T.length := by cases d <;> simp [putA]
theorem putA_get_ne {T : List AV} {d : Option Tmp} {x : AV} {t : Nat} (h : d ≠ some t) : (putA T d x)[t]? = T[t]? := by
  cases d with
  | none => rfl
  | some d => exact List.getElem?_set_ne (fun e => h (by rw [e]))
theorem putA_get_self {T : List AV} {x : AV} {t : Nat} (h : t < T.length) : (putA T (some t) x)[t]? = some x := List.getElem?_set_self h

theorem foldC_length (ops : Array Oper) (x : Nat → AV) (C : Nat → Bool) : ∀ (l : List Nat) (T : List AV), (foldC ops x C l T).length = T.length
  | [], T => rfl
  | i :: r, T => by
    rw [foldC, foldC_length ops x C r]
    split
    · split
      · exact putA_length _ _ _
      · rfl
    · rfl

/-- A slot hangs on its writers alone. -/
theorem foldC_slot {ops : Array Oper} {x : Nat → AV} {C D : Nat → Bool} {t : Nat} : ∀ (l : List Nat) (T T' : List AV), T.length = T'.length → T[t]? = T'[t]? → (∀ i ∈ l, ∀ o, ops[i]? = some o → o.dst = some t → C i = D i) → (foldC ops x C l T)[t]? = (foldC ops x D l T')[t]?
  | [], T, T', _, h, _ => h
  | i :: r, T, T', hl, h, hc => by
    rw [foldC, foldC]
    refine foldC_slot r _ _ ?_ ?_ (fun j hj => hc j (List.mem_cons_of_mem _ hj))
    · split <;> split <;> (first | exact hl | (split <;> simp [putA_length, hl]))
    · cases ho : ops[i]? with
      | none => simpa using h
      | some o =>
        by_cases hd : o.dst = some t
        · rw [hc i List.mem_cons_self o ho hd]
          split
          · simp only [hd]
            by_cases hlt : t < T.length
            · rw [putA_get_self hlt, putA_get_self (by omega)]
            · rw [List.getElem?_eq_none (by rw [putA_length]; omega), List.getElem?_eq_none (by rw [putA_length]; omega)]
          · exact h
        · have e1 : ∀ (b : Bool) (S : List AV), (if b = true then putA S o.dst (x i) else S)[t]? = S[t]? := by
            intro b S
            cases b
            · rfl
            · exact putA_get_ne hd
          simp only [e1, h]

theorem foldC_none {ops : Array Oper} {x : Nat → AV} : ∀ (l : List Nat) (T : List AV), foldC ops x (fun _ => false) l T = T
  | [], T => rfl
  | i :: r, T => by rw [foldC]; simp [foldC_none r]

/-! ### Operations that leave the heap as it was -/
theorem owns_len {E : Env} {H : AHeap} {l b : Nat} (h : owns E H l b) : l < H.length := by
  unfold owns at h
  cases hl : H[l]? with
  | none => rw [hl] at h; exact h.elim
  | some o => exact (List.getElem?_eq_some_iff.1 hl).1

structure ExtF (al : Option Nat) (E : Env) (H : AHeap) (w : World) (E' : Env) (w' : World) : Prop where
  le : E.le E'
  size : w.heap.size ≤ w'.heap.size
  keep : ∀ {l b}, owns E H l b → w'.heap[b]? = w.heap[b]?
  old : ∀ {l}, l < H.length → al ≠ some l → E'.φ l = E.φ l
  stay : ∀ {b}, b < w.heap.size → (∀ l, ¬ owns E H l b) → w'.heap[b]? = w.heap[b]? ∧ (∀ l, ¬ owns E' H l b) ∧ ∀ o, E'.S b o = E.S b o

/-- It may come at any time; al: the label that was kept for it. -/
def OpF (P : Program) (o : Oper) (T : List AV) (H : AHeap) (x : AV) (al : Option Nat) : Prop :=
  ∀ (E : Env) (w0 w : World) (ρ : Operand → Value), Good E H w0 w → (∀ l, al = some l → E.φ l = none) → RelO E T o ρ →
    OpR P o ρ w fun v w' => ∃ E', ExtF al E H w E' w' ∧ Good E' H w0 w' ∧ Rel E' x v

theorem OpR.mono {P : Program} {o : Oper} {ρ : Operand → Value} {w : World} {K K' : Value → World → Prop} (h : OpR P o ρ w K) (hk : ∀ v w', K v w' → K' v w') : OpR P o ρ w K' := by
  unfold OpR at *
  split at h
  · exact hk _ _ h
  · exact hk _ _ h
  · refine h.mono ?_
    intro e w'' he
    cases e with
    | returned v => exact hk _ _ he
    | panicked c => exact he.elim
    | outgrown => exact he.elim
  · exact h.elim

theorem OpA.f {P : Program} {o : Oper} {T : List AV} {H : AHeap} {x : AV} (h : OpA P o T H x H []) : OpF P o T H x none := by
  intro E w0 w ρ hg _ ht
  refine (h E w0 w ρ hg ht).mono ?_
  rintro v w' ⟨E', ex, g, r⟩
  exact ⟨E', ⟨ex.le, ex.size, fun ho => ex.keep (owns_len ho) (by simp) ho, fun hl _ => ex.old hl, ex.stay⟩, g, r⟩

theorem OpF.a {P : Program} {o : Oper} {T : List AV} {H : AHeap} {x : AV} (h : OpF P o T H x none) : OpA P o T H x H [] := by
  intro E w0 w ρ hg ht
  refine (h E w0 w ρ hg (fun l e => by cases e) ht).mono ?_
  rintro v w' ⟨E', ex, g, r⟩
  exact ⟨E', ⟨ex.le, ex.size, Nat.le_refl _, fun _ _ => rfl, fun _ _ ho => ex.keep ho, fun hl => ex.old hl (by simp), ex.stay⟩, g, r⟩

theorem Ext.thenF {n0 : Nat} {W : Nat → Prop} {E0 E E' : Env} {H0 H : AHeap} {w0 w w' : World} {al : Option Nat} (h : Ext n0 W E0 H0 w0 E H w) (k : ExtF al E H w E' w') (ha : ∀ l, al = some l → H0.length ≤ l) : Ext n0 W E0 H0 w0 E' H w' :=
  ⟨h.le.trans k.le, Nat.le_trans h.size k.size, h.len, h.same, fun hl hw ho => (k.keep (ho.step h.le (h.same hl hw))).trans (h.keep hl hw ho),
   fun {l} hl => (k.old (Nat.lt_of_lt_of_le hl h.len) (fun e => by have := ha l e; omega)).trans (h.old hl),
   fun hb h0 => ⟨(k.stay (Nat.lt_of_lt_of_le hb h.size) (h.stay hb h0).2.1).1.trans (h.stay hb h0).1, (k.stay (Nat.lt_of_lt_of_le hb h.size) (h.stay hb h0).2.1).2.1, fun o => ((k.stay (Nat.lt_of_lt_of_le hb h.size) (h.stay hb h0).2.1).2.2 o).trans ((h.stay hb h0).2.2 o)⟩⟩

theorem owns_settle {E : Env} {H : AHeap} {l x k b : Nat} (h : owns (E.withφ l x) H k b) : owns E H k b ∨ b = x := by
  by_cases hk : k = l
  · subst hk
    have e : (E.withφ k x).φ k = some x := withφ_self _ _ _
    unfold owns at h ⊢
    cases hk' : H[k]? with
    | none => rw [hk'] at h; exact h.elim
    | some o =>
      rw [hk'] at h
      cases o with
      | dead => exact h.elim
      | cells cs => exact .inr (Option.some.inj (e.symm.trans h)).symm
      | tail n sz => exact .inl h
      | map es => exact .inr (Option.some.inj (e.symm.trans h)).symm
      | iter m => exact .inr (Option.some.inj (e.symm.trans h)).symm
      | mark k => exact .inr (Option.some.inj (e.symm.trans h)).symm
  · refine .inl ?_
    have e : (E.withφ l x).φ k = E.φ k := withφ_ne E hk
    unfold owns at h ⊢
    cases hk' : H[k]? with
    | none => rw [hk'] at h; exact h.elim
    | some o =>
      rw [hk'] at h
      cases o with
      | dead => exact h
      | cells cs => exact e.symm.trans h
      | tail n sz => exact h
      | map es => exact e.symm.trans h
      | iter m => exact e.symm.trans h
      | mark k => exact e.symm.trans h

/-- A variable whose label was kept for it. -/
theorem Good.settle {E : Env} {H : AHeap} {w0 w : World} (g : Good E H w0 w) {l : Nat} {cs : List AV} {arr : Array Value} (T : TypeId) (hl : H[l]? = some (.cells cs)) (hφ : E.φ l = none) (hr : RelCells E cs arr) :
    Good (E.withφ l w.heap.size) H w0 (w.alloc (.cells arr T)) := by
  have hle : E.le (E.withφ l w.heap.size) := Env.withφ_le hφ
  have gp := g.push (.cells arr T)
  have back : ∀ k b, owns (E.withφ l w.heap.size) H k b → k ≠ l → owns E H k b := by
    intro k b ho hk
    unfold owns at ho ⊢
    cases hk' : H[k]? with
    | none => rw [hk'] at ho; exact ho.elim
    | some o =>
      rw [hk'] at ho
      have e : (E.withφ l w.heap.size).φ k = E.φ k := withφ_ne E hk
      cases o with
      | dead => exact ho
      | cells cs => exact e.symm.trans ho
      | tail n sz => exact ho
      | map es => exact e.symm.trans ho
      | iter m => exact e.symm.trans ho
      | mark k => exact e.symm.trans ho
  have self : ∀ b, owns (E.withφ l w.heap.size) H l b → b = w.heap.size := by
    intro b ho
    unfold owns at ho
    rw [hl] at ho
    have : (E.withφ l w.heap.size).φ l = some w.heap.size := withφ_self _ _ _
    rw [this] at ho
    exact (Option.some.inj ho).symm
  refine ⟨gp.below, fun h => gp.snap h, fun {k o} hk => ?_, fun {k k' b} h1 h2 => ?_, fun {k} hk => ?_, fun {k b} hk => ?_⟩
  · by_cases hkl : k = l
    · subst hkl
      rw [hl] at hk
      cases hk
      intro b hb
      rw [withφ_self] at hb
      simp only [Option.some.injEq] at hb
      subst hb
      refine ⟨g.below.size, fun c => S_new_none g c, arr, T, heap_alloc_new w _, fun j x hj => ?_⟩
      obtain ⟨u, hu, h⟩ := hr j x hj
      exact ⟨u, hu, h.mono hle⟩
    · refine (gp.obj hk).step hk hle (fun b hb => ?_) (fun m => rfl) (fun b c hb hc hn => hn) (fun b hb => rfl)
      rw [withφ_ne E hkl] at hb; exact hb
  · by_cases h1l : k = l
    · by_cases h2l : k' = l
      · rw [h1l, h2l]
      · subst h1l
        have := self b h1
        have := g.ownlt (back k' b h2 h2l)
        omega
    · by_cases h2l : k' = l
      · subst h2l
        have := self b h2
        have := g.ownlt (back k b h1 h1l)
        omega
      · exact g.sep (back k b h1 h1l) (back k' b h2 h2l)
  · have hkl : k ≠ l := fun e => by have := (List.getElem?_eq_some_iff.1 hl).1; omega
    have := g.fresh hk
    exact ⟨(withφ_ne E hkl).trans this.1, this.2⟩
  · by_cases hkl : k = l
    · subst hkl
      rw [withφ_self] at hk
      simp only [Option.some.injEq] at hk
      subst hk
      rw [alloc_size]; omega
    · rw [withφ_ne E hkl] at hk
      exact gp.φlt hk

/-- The order of the text, told by functions of the place. -/
structure Seq (P : Program) (ops : Array Oper) (T0 : List AV) (H0 : AHeap) (T' : List AV) (H' : AHeap) where
  Ts : Nat → List AV
  Hs : Nat → AHeap
  x : Nat → AV
  fl : Nat → Bool
  rd : Nat → List Nat
  alt : Nat → Nat → Option AObj
  al : Nat → Option Nat
  Wr : Nat → List Nat
  t0 : Ts 0 = T0
  h0 : Hs 0 = H0
  tn : Ts ops.size = T'
  hn : Hs ops.size = H'
  next : ∀ i o, ops[i]? = some o → Ts (i + 1) = putA (Ts i) o.dst (x i)
  step : ∀ i o, ops[i]? = some o → (wantedA ops (Ts i) o = some false ∧ x i = skipA ∧ fl i = true ∧ Hs (i + 1) = Hs i) ∨
    (wantedA ops (Ts i) o = some true ∧ fl i = true ∧ Hs (i + 1) = Hs i ∧ ∀ H : AHeap, (∀ l ∈ rd i, H[l]? = (Hs i)[l]? ∨ ∃ ob, alt i l = some ob ∧ H[l]? = some ob) → OpF P o (Ts i) H (x i) (al i)) ∨
    (wantedA ops (Ts i) o = some true ∧ fl i = false ∧ OpA P o (Ts i) (Hs i) (x i) (Hs (i + 1)) (Wr i) ∧ (Hs i).length ≤ (Hs (i + 1)).length ∧ ∀ l, l < (Hs i).length → l ∉ Wr i → (Hs (i + 1))[l]? = (Hs i)[l]?)

/-- The order's conditions. -/
structure OrderOk (ops : Array Oper) (fl : Nat → Bool) (rd : Nat → List Nat) (alt : Nat → Nat → Option AObj) (Hs : Nat → AHeap) (Wr : Nat → List Nat) (H0 : AHeap) : Prop where
  slots : ∀ i o, ops[i]? = some o → ∀ t ∈ looks ops o, ∀ j q, ops[j]? = some q → q.dst = some t → j ≠ i → lt (masks ops) (min i j) (max i j) = true
  effects : ∀ i j, i < j → j < ops.size → fl i = false → fl j = false → lt (masks ops) i j = true
  before : ∀ i j l, j < i → i < ops.size → fl i = true → fl j = false → l ∈ rd i → l ∈ Wr j → lt (masks ops) j i = true
  behind : ∀ i j l, i < j → j < ops.size → fl i = true → fl j = false → l ∈ rd i → l ∈ Wr j → lt (masks ops) i j = true ∨ ∃ ob, alt i l = some ob ∧ (Hs (j + 1))[l]? = some ob
  known : ∀ i l, i < ops.size → l ∈ rd i → l < H0.length
  edges : ∀ i o, ops[i]? = some o → ∀ e ∈ o.after, Region.binds .any e = true → e.on < i

section
variable {P : Program} {ops : Array Oper} {T0 T' : List AV} {H0 H' : AHeap}

theorem foldC_append (x : Nat → AV) (C : Nat → Bool) : ∀ (l1 l2 : List Nat) (T : List AV), foldC ops x C (l1 ++ l2) T = foldC ops x C l2 (foldC ops x C l1 T)
  | [], l2, T => rfl
  | i :: r, l2, T => by rw [List.cons_append, foldC, foldC_append x C r, foldC]

theorem foldC_false (x : Nat → AV) (C : Nat → Bool) : ∀ (l : List Nat) (T : List AV), (∀ i ∈ l, C i = false) → foldC ops x C l T = T
  | [], T, _ => rfl
  | i :: r, T, h => by
    rw [foldC, h i List.mem_cons_self]
    exact foldC_false x C r T (fun j hj => h j (List.mem_cons_of_mem _ hj))

theorem foldC_congr (x : Nat → AV) (C D : Nat → Bool) : ∀ (l : List Nat) (T : List AV), (∀ i ∈ l, C i = D i) → foldC ops x C l T = foldC ops x D l T
  | [], T, _ => rfl
  | i :: r, T, h => by
    rw [foldC, foldC, h i List.mem_cons_self]
    exact foldC_congr x C D r _ (fun j hj => h j (List.mem_cons_of_mem _ hj))

theorem Seq.Ts_fold (S : Seq P ops T0 H0 T' H') : ∀ k, k ≤ ops.size → S.Ts k = foldC ops S.x (fun j => decide (j < k)) (List.range ops.size) T0 := by
  have key : ∀ k, k ≤ ops.size → S.Ts k = foldC ops S.x (fun _ => true) (List.range k) T0 := by
    intro k
    induction k with
    | zero => intro _; rw [S.t0]; rfl
    | succ k ih =>
      intro hk
      rw [List.range_succ, foldC_append, ← ih (by omega)]
      have ho : ops[k]? = some ops[k] := by simp [show k < ops.size by omega]
      rw [S.next k _ ho, foldC, foldC]
      simp [ho]
  intro k hk
  have hr : List.range ops.size = List.range k ++ (List.range (ops.size - k)).map (k + ·) := by
    rw [← List.range_add]; congr 1; omega
  rw [hr, foldC_append, key k hk, foldC_false _ _ ((List.range (ops.size - k)).map (k + ·))]
  · exact foldC_congr _ _ _ _ _ (fun i hi => by simp at hi; simp [hi])
  · intro i hi
    simp at hi
    obtain ⟨a, _, rfl⟩ := hi
    simp

/-- Heaps where nothing has been carried out between. -/
theorem Seq.Hs_same (S : Seq P ops T0 H0 T' H') {p : Nat} : ∀ q, p ≤ q → q ≤ ops.size → (∀ i, p ≤ i → i < q → S.fl i = true) → S.Hs q = S.Hs p := by
  intro q
  induction q with
  | zero => intro h _ _; have : p = 0 := by omega
            subst this; rfl
  | succ q ih =>
    intro h1 h2 h3
    rcases Nat.lt_or_ge q p with h | h
    · have : p = q + 1 := by omega
      subst this; rfl
    · rw [← ih h (by omega) (fun i hi hq => h3 i hi (by omega))]
      have ho : ops[q]? = some ops[q] := by simp [show q < ops.size by omega]
      have hf := h3 q h (by omega)
      rcases S.step q _ ho with ⟨_, _, _, h4⟩ | ⟨_, _, h4, _⟩ | ⟨_, h4, _⟩
      · exact h4
      · exact h4
      · rw [hf] at h4; cases h4

theorem Seq.Hs_len (S : Seq P ops T0 H0 T' H') : ∀ q, q ≤ ops.size → H0.length ≤ (S.Hs q).length := by
  intro q
  induction q with
  | zero => intro _; rw [S.h0]; exact Nat.le_refl _
  | succ q ih =>
    intro h
    have ho : ops[q]? = some ops[q] := by simp [show q < ops.size by omega]
    have := ih (by omega)
    rcases S.step q _ ho with ⟨_, _, _, h4⟩ | ⟨_, _, h4, _⟩ | ⟨_, _, _, h4, _⟩
    · rw [h4]; exact this
    · rw [h4]; exact this
    · omega

/-- A label that nobody between writes. -/
theorem Seq.Hs_label (S : Seq P ops T0 H0 T' H') {l : Nat} (hl : l < H0.length) {p : Nat} : ∀ q, p ≤ q → q ≤ ops.size → (∀ i, p ≤ i → i < q → S.fl i = false → l ∉ S.Wr i) → (S.Hs q)[l]? = (S.Hs p)[l]? := by
  intro q
  induction q with
  | zero => intro h _ _; have : p = 0 := by omega
            subst this; rfl
  | succ q ih =>
    intro h1 h2 h3
    rcases Nat.lt_or_ge q p with h | h
    · have : p = q + 1 := by omega
      subst this; rfl
    · rw [← ih h (by omega) (fun i hi hq => h3 i hi (by omega))]
      have ho : ops[q]? = some ops[q] := by simp [show q < ops.size by omega]
      rcases S.step q _ ho with ⟨_, _, _, h4⟩ | ⟨_, _, h4, _⟩ | ⟨_, h4, _, _, h5⟩
      · rw [h4]
      · rw [h4]
      · exact h5 l (Nat.lt_of_lt_of_le hl (S.Hs_len q (by omega))) (h3 q h (by omega) h4)

theorem wantedA_congr {T1 T2 : List AV} {o : Oper} (h : ∀ t ∈ looks ops o, T1[t]? = T2[t]?) : wantedA ops T1 o = wantedA ops T2 o := by
  unfold wantedA
  cases hg : o.guard with
  | none => rfl
  | some g =>
    obtain ⟨j, want⟩ := g
    simp only
    congr 1
    unfold yieldedA
    cases hd : (ops[j]?).bind (·.dst) with
    | none => rfl
    | some d =>
      simp only [Option.bind_some]
      rw [h d (by unfold looks; rw [hg]; simp [hd])]

theorem opdA_congr {T1 T2 : List AV} {o : Oper} (h : ∀ t ∈ looks ops o, T1[t]? = T2[t]?) {p : Operand} (hp : p ∈ o.op.operands) : opdA T1 p = opdA T2 p := by
  cases p with
  | tmp t =>
    simp only [opdA, List.getD_eq_getElem?_getD]
    rw [h t (by
      unfold looks
      refine List.mem_append_left _ (List.mem_append_right _ ?_)
      rw [List.mem_filterMap]
      exact ⟨.tmp t, by simpa using hp, rfl⟩)]
  | _ => rfl

theorem upC {C : Nat → Bool} {i j : Nat} (h : j ≠ i) : (fun k => if k = i then true else C k) j = C j := by simp [h]

variable (S : Seq P ops T0 H0 T' H') (hok : OrderOk ops S.fl S.rd S.alt S.Hs S.Wr H0)
include hok

/-- What is in C of those that write a slot that i looks at: those ahead of i in the text. -/
theorem Seq.writers {C : Nat → Bool} (hc : Closed ops C) {i : Nat} {o : Oper} (ho : ops[i]? = some o) (hi : C i = false) (hr : ∀ e ∈ o.after, Region.binds .any e = true → C e.on = true) {t : Nat} (ht : t ∈ looks ops o) {j : Nat} {q : Oper} (hq : ops[j]? = some q) (hd : q.dst = some t) :
    C j = decide (j < i) := by
  have hj := (Array.getElem?_eq_some_iff.1 hq).1
  rcases Nat.lt_trichotomy j i with h | h | h
  · have := hok.slots i o ho t ht j q hq hd (by omega)
    rw [Nat.min_eq_right (by omega), Nat.max_eq_left (by omega)] at this
    rw [lt_ready hc ho hr j this]
    simp [h]
  · subst h; simp [hi]
  · have := hok.slots i o ho t ht j q hq hd (by omega)
    rw [Nat.min_eq_left (by omega), Nat.max_eq_right (by omega)] at this
    cases hC : C j with
    | false => simp; omega
    | true =>
      have := lt_closed hc j hj hC i this
      rw [hi] at this; cases this

theorem Seq.slot_eq {C : Nat → Bool} (hc : Closed ops C) {i : Nat} {o : Oper} (ho : ops[i]? = some o) (hi : C i = false) (hr : ∀ e ∈ o.after, Region.binds .any e = true → C e.on = true) {t : Nat} (ht : t ∈ looks ops o) :
    (foldC ops S.x C (List.range ops.size) T0)[t]? = (S.Ts i)[t]? := by
  have hin := (Array.getElem?_eq_some_iff.1 ho).1
  rw [S.Ts_fold i (Nat.le_of_lt hin)]
  exact foldC_slot _ _ _ rfl rfl (fun j hj q hq hd => S.writers hok hc ho hi hr ht hq hd)

/-- i comes into C. -/
theorem Seq.slot_put {C : Nat → Bool} (hc : Closed ops C) {i : Nat} {o : Oper} (ho : ops[i]? = some o) (hi : C i = false) (hr : ∀ e ∈ o.after, Region.binds .any e = true → C e.on = true) (t : Nat) :
    (foldC ops S.x (fun k => if k = i then true else C k) (List.range ops.size) T0)[t]? = (putA (foldC ops S.x C (List.range ops.size) T0) o.dst (S.x i))[t]? := by
  have hin := (Array.getElem?_eq_some_iff.1 ho).1
  by_cases hd : o.dst = some t
  · have htl : t ∈ looks ops o := by unfold looks; simp [hd]
    by_cases hlt : t < T0.length
    · rw [hd, putA_get_self (by rw [foldC_length]; exact hlt)]
      have e : (foldC ops S.x (fun k => if k = i then true else C k) (List.range ops.size) T0)[t]? = (foldC ops S.x (fun k => decide (k < i + 1)) (List.range ops.size) T0)[t]? := by
        refine foldC_slot _ _ _ rfl rfl (fun j hj q hq hd' => ?_)
        by_cases hji : j = i
        · subst hji; simp
        · have := S.writers hok hc ho hi hr htl hq hd'
          simp only [hji, if_false, this]
          have : j < i ↔ j < i + 1 := by omega
          simp [this]
      rw [e, ← S.Ts_fold (i + 1) hin, S.next i o ho, hd]
      exact putA_get_self (by rw [S.Ts_fold i (by omega), foldC_length]; exact hlt)
    · rw [List.getElem?_eq_none (by rw [foldC_length]; omega), List.getElem?_eq_none (by rw [putA_length, foldC_length]; omega)]
  · rw [putA_get_ne hd]
    refine foldC_slot _ _ _ rfl rfl (fun j hj q hq hd' => ?_)
    have : j ≠ i := fun e => by subst e; rw [ho] at hq; cases hq; exact hd hd'
    simp [this]

end
end Go.Proofs.YtiipaliigpkfhaaGreat.Ab
