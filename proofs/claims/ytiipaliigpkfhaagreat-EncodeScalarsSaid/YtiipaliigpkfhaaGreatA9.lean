/- Part 9: the builtin append. -/
import Derived.Test.YtiipaliigpkfhaaGreatA8
set_option linter.unusedVariables false
set_option linter.unusedSimpArgs false
namespace Go.Proofs.YtiipaliigpkfhaaGreat.Ab
open Go Go.RowKit

def stor (v : Value) : Prop := (∀ cs, v ≠ .agg cs) ∧ ∀ cs, v ≠ .tuple cs

theorem stor_run {v : Value} (h : stor v) {α : Type} (P : Program) (m : Mode) (a : Addr) (k : Sem α) (w : World) :
    (Sem.store m a v k).run P w = match w.cell? a with
      | some _ => if w.frozen? a then .halt (.unsupported (.unsafePointer "a write to bytes that a string shares")) w else k.run P (w.setCell a v)
      | none => match w.farStore P a v (m == .atomic) with
        | .ok (w, _) => k.run P w
        | .error h => .halt h w := by
  cases v with
  | agg cs => exact absurd rfl (h.1 cs)
  | tuple cs => exact absurd rfl (h.2 cs)
  | _ => rfl

theorem stor_of {E : Env} {x : AV} {v : Value} (h : Rel E x v) (hx : oneC x = true) : stor v := by
  cases h with
  | any v => simp [oneC] at hx
  | agg cs us hl k => simp [oneC] at hx
  | tup cs us hl k => simp [oneC] at hx
  | sc v hp => cases v <;> first | (exfalso; simp [plain] at hp; done) | exact ⟨fun _ => by simp, fun _ => by simp⟩
  | _ => exact ⟨fun _ => by simp, fun _ => by simp⟩

section
variable {P : Program} {o : Oper} {T : List AV} {H : AHeap} {E : Env} {w0 w : World}

theorem Good.drew (g : Good E H w0 w) : Good E H w0 w.drew :=
  ⟨g.below.drew, fun h => g.snap h, fun h => g.obj h, g.sep, g.fresh, g.φlt⟩

theorem drew_ext (n0 : Nat) (W : Nat → Prop) : Ext n0 W E H w E H w.drew := ⟨.refl E, Nat.le_refl _, Nat.le_refl _, fun _ _ => rfl, fun _ _ _ => rfl, fun _ => rfl, fun _ h => ⟨rfl, h, fun _ => rfl⟩⟩

/-- A store into a tail's free part. -/
theorem Good.setTail (g : Good E H w0 w) {t n sz b c j : Nat} (hH : H[t]? = some (.tail n sz)) (hG : E.G t n = some (b, c)) (hj : n * sz ≤ j) (v : Value) : Good E H w0 (w.setCell ⟨b, j, none⟩ v) := by
  obtain ⟨b', c', arr, Ty, h1, h2, h3, h4, h5, h6, h7, h8⟩ := g.obj hH
  rw [hG] at h1
  simp only [Option.some.injEq, Prod.mk.injEq] at h1
  obtain ⟨rfl, rfl⟩ := h1
  have hown : owns E H t b := by unfold owns; rw [hH]; exact ⟨c, hG⟩
  refine ⟨g.below.setCell h2 v, ?_, ?_, g.sep, g.fresh, fun h => by have := g.φlt h; simpa [World.setCell] using this⟩
  · intro x o u h
    by_cases hx : x = b
    · subst hx
      have hlt : o < n * sz := by
        rcases Nat.lt_or_ge o (n * sz) with h' | h'
        · exact h'
        · rw [h7 o h'] at h; cases h
      have := g.snap h
      rw [cell_at h3] at this
      have hb : (w.setCell ⟨x, j, none⟩ v).heap[x]? = some (.cells (arr.setIfInBounds j v) Ty (0, 0)) := by simp [World.setCell, Array.getElem?_modify, h3]
      rw [cell_at hb, Array.getElem?_setIfInBounds_ne (by omega)]
      exact this
    · rw [cell_same (Below.heap_setCell w ⟨b, j, none⟩ v x hx)]
      exact g.snap h
  · intro l o h
    by_cases hl : l = t
    · subst hl
      rw [hH] at h
      simp only [Option.some.injEq] at h
      subst h
      refine ⟨b, c, arr.setIfInBounds j v, Ty, hG, h2, ?_, by simp [h4], h5, h6, h7, h8⟩
      simp [World.setCell, Array.getElem?_modify, h3]
    · refine (g.obj h).step h (.refl E) (fun _ h => h) (fun _ => rfl) (fun _ _ _ _ h => h) (fun x hx => ?_)
      refine Below.heap_setCell w ⟨b, j, none⟩ v x (fun e => hl ?_)
      simp only at e
      subst e
      exact g.sep hx hown

theorem setTail_ext {n0 : Nat} {W : Nat → Prop} (g : Good E H w0 w) {t n sz b c j : Nat} (hH : H[t]? = some (.tail n sz)) (hG : E.G t n = some (b, c)) (hW : t < n0 → W t) (v : Value) : Ext n0 W E H w E H (w.setCell ⟨b, j, none⟩ v) := by
  have hown : owns E H t b := by unfold owns; rw [hH]; exact ⟨c, hG⟩
  refine ⟨.refl E, by simp [World.setCell], Nat.le_refl _, fun _ _ => rfl, fun {l x} hl hw ho => ?_, fun _ => rfl, fun {x} hx h => ⟨Below.heap_setCell w ⟨b, j, none⟩ v x (fun e => by simp only at e; subst e; exact h _ hown), h, fun _ => rfl⟩⟩
  refine Below.heap_setCell w ⟨b, j, none⟩ v x (fun e => ?_)
  simp only at e
  subst e
  have := g.sep ho hown
  subst this
  exact hw (hW hl)

theorem storeTail_run {t n sz b c n0 : Nat} {W : Nat → Prop} {Ty : TypeId} (hH : H[t]? = some (.tail n sz)) (hG : E.G t n = some (b, c)) (hW : t < n0 → W t) : ∀ (vs : List Value) (off i : Nat) (w : World) (arr : Array Value),
    Good E H w0 w → w.heap[b]? = some (.cells arr Ty (0, 0)) → (∀ v ∈ vs, stor v) → n * sz ≤ off + i → off + i + vs.length ≤ arr.size →
    ∃ w' arr', (storeCells ⟨b, off, none⟩ vs i).run P w = .ok () w' ∧ Good E H w0 w' ∧ Ext n0 W E H w E H w' ∧ w'.heap[b]? = some (.cells arr' Ty (0, 0)) ∧ arr'.size = arr.size ∧
      ∀ j, arr'[j]? = if off + i ≤ j ∧ j < off + i + vs.length then vs[j - (off + i)]? else arr[j]?
  | [], off, i, w, arr, g, hb, hs, hn, hl => ⟨w, arr, rfl, g, .refl _ _ _ _ _, hb, rfl, fun j => by rw [if_neg (by simp)]⟩
  | v :: r, off, i, w, arr, g, hb, hs, hn, hl => by
    simp only [List.length_cons] at hl
    have hb1 : (w.setCell ⟨b, off + i, none⟩ v).heap[b]? = some (.cells (arr.setIfInBounds (off + i) v) Ty (0, 0)) := by simp [World.setCell, Array.getElem?_modify, hb]
    obtain ⟨w', arr', hrun, g', e', hb', hsz', hget⟩ := storeTail_run hH hG hW r off (i + 1) _ _ (g.setTail hH hG (j := off + i) hn v) hb1 (fun x hx => hs x (List.mem_cons_of_mem _ hx)) (by omega) (by simp; omega)
    refine ⟨w', arr', ?_, g', (setTail_ext g hH hG hW v).trans e', hb', by simpa using hsz', fun j => ?_⟩
    · unfold storeCells
      rw [Sem.run_bind]
      have h1 : (store ((⟨b, off, none⟩ : Addr).add i) v).run P w = .ok () (w.setCell ⟨b, off + i, none⟩ v) := by
        rw [add_plain']
        unfold store
        rw [stor_run (hs v List.mem_cons_self), cell_at hb, frozen_at hb]
        have hlt : off + i < arr.size := by omega
        simp [hlt, Sem.run]
      rw [h1]
      exact hrun
    · rw [hget j]
      by_cases hj : j = off + i
      · subst hj
        have hlt : off + i < arr.size := by omega
        rw [if_neg (by omega), if_pos (by simp)]
        simp [hlt]
      · by_cases h1 : off + (i + 1) ≤ j ∧ j < off + (i + 1) + r.length
        · rw [if_pos h1, if_pos (by simp; omega)]
          rw [show j - (off + i) = (j - (off + (i + 1))) + 1 by omega]
          simp
        · rw [if_neg h1, if_neg (by simp; omega), Array.getElem?_setIfInBounds_ne (Ne.symm hj)]

theorem nextcap_le {need cap : Nat} (h : cap < need) : Builtin.nextslicecap need cap ≤ 2 * need := by
  unfold Builtin.nextslicecap
  split
  · omega
  · split
    · omega
    · have step : ∀ c, 256 ≤ c → c < need → c + (c + 768) / 4 ≤ 2 * need := by intro c h1 h2; omega
      have key : ∀ (k c : Nat), 256 ≤ c → c ≤ 2 * need → Builtin.growBy need k c ≤ 2 * need := by
        intro k
        induction k with
        | zero => intro c _ h; exact h
        | succ k ih =>
          intro c h1 h2
          unfold Builtin.growBy
          split
          · exact h2
          · exact ih _ (by omega) (step c h1 (by omega))
      exact key 4 cap (by omega) (by omega)

theorem run_appendCap {α : Type} (need old : Nat) (elem : TypeId) (k : Nat → Sem α) (w : World) (hn : need < 2 ^ 63) :
    ∃ c, need ≤ c ∧ c ≤ maxLen ∧ (choose (.appendCap need old elem) >>= k).run P w = (k c).run P w.drew := by
  refine ⟨need + w.tape w.drawn (.appendCap need old elem) % (2 ^ 63 - need), Nat.le_add_right _ _, ?_, ?_⟩
  · have : w.tape w.drawn (.appendCap need old elem) % (2 ^ 63 - need) < 2 ^ 63 - need := Nat.mod_lt _ (by omega)
    unfold maxLen
    omega
  · rw [Sem.run_bind]
    simp only [choose, Sem.run, Question.forced, Question.cut, Bool.false_eq_true, if_false, Result.andThen_ok]
    rfl

theorem run_askRoom {α : Type} (n : Nat) (k : Unit → Sem α) (w : World) : (askRoom n >>= k).run P w = (k ()).run P w := by
  unfold askRoom
  split
  · rw [Sem.run_bind]; rfl
  · simp

/-- What is known of the types at an append. -/
structure AppT (P : Program) (c : Call) (p q : Operand) (sz bytes : Nat) : Prop where
  callee : c.callee = .builtin .append
  args : c.args = #[p, q]
  ty : ∃ t t2 elem i z d, c.argTypes = #[t, t2] ∧ pureEval P (underlying t) = some (.slice elem) ∧ pureEval P (Go.sizeOf elem) = some sz ∧ pureEval P (typeInfo elem) = some i ∧ i.bytes = bytes ∧
    pureEval P (zeroValue elem) = some z ∧ z.cells.size = sz ∧ pureEval P (underlying t2) = some d ∧ ∀ k, d ≠ .int k

theorem zeroCells_size (z : Array Value) (n : Nat) : (Builtin.zeroCells z n).size = n * z.size := by simp [Builtin.zeroCells]

/-- An append that makes a new row. -/
theorem append_moves {c : Call} {p q : Operand} {sz bytes : Nat} (hc : AppT P c p q sz bytes) {ρ : Operand → Value} (hrq : Rel E (opdA T q) (ρ q)) (g : Good E H w0 w) {nl : Bool} {n m k : Nat} {el el2 : Nat → List AV} {own : Own} {A : Option Addr} (ho : o.op = .call c)
    (hp : Rel E (.rsl nl sz n el own) (ρ p)) (hv : ρ p = .slice A n k) (hq : srcA sz (opdA T q) = some (m, el2)) (hk : k < n + m) (hbig : (n + m) * bytes ≤ 2 ^ 46) (hlen : n + m < 2 ^ 62) {t n0 : Nat} {W : Nat → Prop} (hn0 : n0 ≤ H.length)
    (htl : t ≤ H.length) (hW : t < n0 → W t) (hG : ∀ j, n + m ≤ j → E.G t j = none) :
    ∃ E' v w', (execOp ρ o).run P w = .ok (.value v) w' ∧ Ext n0 W E H w E' (setL H t (.tail (n + m) sz)) w' ∧ Good E' (setL H t (.tail (n + m) sz)) w0 w' ∧
      Rel E' (.rsl false sz (n + m) (fun i => if i < n then el i else el2 (i - n)) (.tok t)) v := by
  obtain ⟨hcal, hargs, ty, t2, elem, i, z, d, hat, hu, hs, hi, hib, hz, hzs, hu2, hd⟩ := hc
  have hd' : ∀ (w : World), (underlying t2).run P w = .ok d w := pureEval_run hu2
  have hsrc1 : srcA sz (.rsl nl sz n el own) = some (n, el) := by simp [srcA]
  obtain ⟨c', hc1, hc2, hdraw⟩ := run_appendCap (P := P) (n + m) k elem (fun newCap => do
      askRoom (newCap * (← typeInfo elem).bytes)
      let old ← Builtin.firstCells sz n (.slice A n k)
      let new ← Builtin.firstCells sz m (ρ q)
      let rest := Builtin.zeroCells (← zeroValue elem).cells (newCap - (n + m))
      pure (Value.slice (some (← newRow elem (old ++ new ++ rest))) (n + m) newCap)) w (by omega)
  have g1 : Good E H w0 w.drew := g.drew
  obtain ⟨-, us, hul, hur, hu1, hu2'⟩ := src_run (P := P) g1 hp hsrc1
  obtain ⟨hvlen0, -⟩ := src_run (P := P) g hrq hq
  obtain ⟨-, vs, hvl, hvr, hv1, hv2⟩ := src_run (P := P) g1 hrq hq
  rw [hv] at hur
  let arr : Array Value := us.toArray ++ vs.toArray ++ Builtin.zeroCells z.cells (c' - (n + m))
  have hsz : arr.size = c' * sz := by
    simp only [arr, Array.size_append, List.size_toArray, zeroCells_size, hul, hvl, hzs]
    rw [← Nat.add_mul, ← Nat.add_mul]
    congr 1
    omega
  have g2 : Good E H w0 (w.drew.alloc (.cells arr elem)) := g1.push _
  have hb : (w.drew.alloc (.cells arr elem)).heap[w.drew.heap.size]? = some (.cells arr elem (0, 0)) := heap_alloc_new _ _
  have hfree : ∀ l, owns E H l w.drew.heap.size → l = t := fun l hl => absurd (g1.ownlt hl) (Nat.lt_irrefl _)
  have hSn : ∀ o, E.S w.drew.heap.size o = none := fun o => S_new_none g1 o
  refine ⟨E.grown w.drew.heap.size arr ((n + m) * sz) t (n + m) c', .slice (some ⟨w.drew.heap.size, 0, none⟩) (n + m) c', w.drew.alloc (.cells arr elem), ?_, ?_, ?_, ?_⟩
  · have hrun : (Builtin.append_ c.argTypes o.type #[ρ p, ρ q]).run P w = .ok (.slice (some ⟨w.drew.heap.size, 0, none⟩) (n + m) c') (w.drew.alloc (.cells arr elem)) := by
      rw [hat, hv]
      unfold Builtin.append_
      simp only [List.getElem?_toArray, List.getElem?_cons_zero, List.getElem?_cons_succ, Sem.run_bind, pureEval_run hu, pureEval_run hs, Result.andThen_ok, hd', Sem.run_pure]
      have hz0 : (match d with | .int _ => true | _ => false) = false := by
        cases d <;> first | rfl | exact absurd rfl (hd _)
      have hdr := hdraw
      simp only [Bool.false_eq_true, if_false, Bool.not_false, if_true, Sem.run_bind, hvlen0, Result.andThen_ok]
      rw [if_neg (by omega : ¬ n + m ≤ k)]
      simp only [Sem.run_bind, pureEval_run hi, Result.andThen_ok]
      have hmax : ¬ (((n + m : Nat) : Int) > IntKind.i64.max ∧ (False ∨ i.bytes = 0)) := by
        intro h
        have : (IntKind.i64.max : Int) = 9223372036854775807 := by decide
        rw [this] at h
        omega
      rw [if_neg hmax]
      simp only [Sem.run_bind, pureEval_run hi, Result.andThen_ok]
      have hcap : ¬ (Builtin.nextslicecap (n + m) k * i.bytes > 2 ^ 48) := by
        have h1 := nextcap_le hk
        have h2 : Builtin.nextslicecap (n + m) k * i.bytes ≤ 2 * (n + m) * i.bytes := Nat.mul_le_mul_right _ h1
        rw [Nat.mul_assoc, hib] at h2
        rw [hib]
        omega
      rw [if_neg hcap]
      simp only [Sem.run_bind] at hdr ⊢
      rw [hdr]
      simp only [pureEval_run hi, Result.andThen_ok]
      unfold askRoom
      have hask : ∀ b : Bool, (Sem.run P (if c' * i.bytes > roomBytes then mark Mark.noRoom else pure ()) w.drew) = .ok () w.drew := by
        intro _
        split
        · rfl
        · rfl
      rw [hask true]
      simp only [Result.andThen_ok]
      rw [hur]
      simp only [Result.andThen_ok]
      rw [hvr]
      simp only [Result.andThen_ok, pureEval_run hz]
      simp only [newRow, newObj, Sem.run_bind, Sem.run, Sem.run_pure, Result.andThen_ok]
      rfl
    simp only [execOp, ho, resolve, hcal, hargs, invoke, builtin, pure_bind]
    rw [Sem.run_bind]
    have e : (#[p, q] : Array Operand).map ρ = #[ρ p, ρ q] := by simp
    rw [e, hrun]
    rfl
  · exact (drew_ext n0 W).trans (new_retail_ext g1 _ htl hW hn0 (hG _ (Nat.le_refl _)))
  · exact g2.retail htl hfree g1.below.size hb hsz hc1 hc2 (fun o _ => hSn o) hG
  · refine grown_rel (us := us) (vs := vs) (hG _ (Nat.le_refl _)) hc2 hc1 (fun o h => absurd (hSn o) h) hul hvl (fun j hj => ?_) hu1 hu2' hv1 hv2
    have hjl : j < (us ++ vs).length := by rw [List.length_append, hul, hvl, ← Nat.add_mul]; exact hj
    have e : arr = (us ++ vs).toArray ++ Builtin.zeroCells z.cells (c' - (n + m)) := by
      simp only [arr]
      congr 1
      simp
    rw [e, Array.getElem?_append_left (by simpa using hjl)]
    simp

/-- An append within the capacity. -/
theorem append_stays {c : Call} {p q : Operand} {sz bytes : Nat} (hc : AppT P c p q sz bytes) {ρ : Operand → Value} (hrq : Rel E (opdA T q) (ρ q)) (g : Good E H w0 w) {n m k b t : Nat} {el el2 : Nat → List AV} (ho : o.op = .call c)
    (hp : Rel E (.rsl false sz n el (.tok t)) (.slice (some ⟨b, 0, none⟩) n k)) (hv : ρ p = .slice (some ⟨b, 0, none⟩) n k) (hGt : E.G t n = some (b, k)) (hH : H[t]? = some (.tail n sz)) (hq : srcA sz (opdA T q) = some (m, el2)) (hm : 0 < m) (hk : n + m ≤ k) :
    ∃ E' v w', (execOp ρ o).run P w = .ok (.value v) w' ∧ Ext H.length (· ∈ [t]) E H w E' (setL H t (.tail (n + m) sz)) w' ∧ Good E' (setL H t (.tail (n + m) sz)) w0 w' ∧
      Rel E' (.rsl false sz (n + m) (fun i => if i < n then el i else el2 (i - n)) (.tok t)) v := by
  obtain ⟨hcal, hargs, ty, t2, elem, i, z, d, hat, hu, hs, hi, hib, hz, hzs, hu2, hd⟩ := hc
  have hd' : ∀ (w : World), (underlying t2).run P w = .ok d w := pureEval_run hu2
  have hsrc1 : srcA sz (.rsl false sz n el (.tok t)) = some (n, el) := by simp [srcA]
  obtain ⟨-, us, hul, hur, hu1, hu2'⟩ := src_run (P := P) g hp hsrc1
  obtain ⟨hvlen0, vs, hvl, hvr, hv1, hv2⟩ := src_run (P := P) g hrq hq
  obtain ⟨b', c', arr, Ty, h1, h2, h3, h4, h5, h6, h7, h8⟩ := g.obj hH
  rw [hGt] at h1
  simp only [Option.some.injEq, Prod.mk.injEq] at h1
  obtain ⟨rfl, rfl⟩ := h1
  have hown : owns E H t b := by unfold owns; rw [hH]; exact ⟨k, hGt⟩
  have htl : t < H.length := (List.getElem?_eq_some_iff.1 hH).1
  have hmul : (n + m) * sz = n * sz + m * sz := Nat.add_mul _ _ _
  have hle : (n + m) * sz ≤ k * sz := Nat.mul_le_mul_right _ hk
  have hstor : ∀ v ∈ vs, stor v := by
    intro v hvm
    obtain ⟨j, hj, rfl⟩ := List.getElem_of_mem hvm
    rw [hvl] at hj
    have hsz : 0 < sz := by
      rcases Nat.eq_zero_or_pos sz with h0 | h0
      · subst h0; simp at hj
      · exact h0
    have hi' : j / sz < m := (Nat.div_lt_iff_lt_mul hsz).2 hj
    have hr' : j % sz < (el2 (j / sz)).length := by rw [(hv1 _ hi').1]; exact Nat.mod_lt _ hsz
    have hrel := hv2 _ hi' (j % sz) _ (List.getElem?_eq_getElem hr')
    have e : j / sz * sz + j % sz = j := by rw [Nat.mul_comm]; exact Nat.div_add_mod j sz
    rw [e] at hrel
    have e2 : vs.getD j undef = vs[j] := by simp [List.getD_eq_getElem?_getD, hvl, hj]
    rw [e2] at hrel
    exact stor_of hrel ((hv1 _ hi').2 _ (List.getElem_mem hr'))
  obtain ⟨w', arr', hrun', g', e', hb', hsz', hget⟩ := storeTail_run (P := P) (n0 := H.length) (W := (· ∈ [t])) hH hGt (fun _ => by simp) vs (n * sz) 0 w arr g h3 hstor (by omega) (by rw [h4, hvl]; omega)
  have hGn : ∀ j, n + m ≤ j → E.G t j = none := fun j hj => h8 j (by omega)
  have hSn : ∀ o, (n + m) * sz ≤ o → E.S b o = none := fun o ho => h7 o (by omega)
  refine ⟨E.grown b arr' ((n + m) * sz) t (n + m) k, .slice (some ⟨b, 0, none⟩) (n + m) k, w', ?_, ?_, ?_, ?_⟩
  · have hrun : (Builtin.append_ c.argTypes o.type #[ρ p, ρ q]).run P w = .ok (.slice (some ⟨b, 0, none⟩) (n + m) k) w' := by
      rw [hat, hv]
      unfold Builtin.append_
      simp only [List.getElem?_toArray, List.getElem?_cons_zero, List.getElem?_cons_succ, Sem.run_bind, pureEval_run hu, pureEval_run hs, Result.andThen_ok, hd', Sem.run_pure]
      have hz0 : (match d with | .int _ => true | _ => false) = false := by
        cases d <;> first | rfl | exact absurd rfl (hd _)
      simp only [Bool.false_eq_true, if_false, Bool.not_false, if_true, Sem.run_bind, hvlen0, Result.andThen_ok]
      rw [if_pos hk]
      simp only [Sem.run_bind, hvr, Result.andThen_ok, add_plain', Nat.zero_add]
      rw [hrun']
      simp only [Result.andThen_ok, Sem.run_pure]
    simp only [execOp, ho, resolve, hcal, hargs, invoke, builtin, pure_bind]
    rw [Sem.run_bind]
    have e : (#[p, q] : Array Operand).map ρ = #[ρ p, ρ q] := by simp
    rw [e, hrun]
    rfl
  · exact e'.trans (retail_ext hown (Nat.le_of_lt htl) (fun _ => by simp) (Nat.le_refl _) (hGn _ (Nat.le_refl _)))
  · exact g'.retail (Nat.le_of_lt htl) (fun l hl => g.sep hl hown) h2 hb' (by rw [hsz', h4]) hk h6 hSn hGn
  · refine grown_rel (us := us) (vs := vs) (hGn _ (Nat.le_refl _)) h6 hk (fun o h => ?_) hul hvl (fun j hj => ?_) hu1 hu2' hv1 hv2
    · cases hs' : E.S b o with
      | none => exact absurd hs' h
      | some u => have := g'.snap hs'; rw [cell_at hb'] at this; exact this.symm
    · rw [hget j, Nat.add_zero]
      by_cases hjn : j < n * sz
      · rw [if_neg (by omega), List.getElem?_append_left (by omega)]
        have hsz0 : 0 < sz := by
          rcases Nat.eq_zero_or_pos sz with h0 | h0
          · subst h0; simp at hjn
          · exact h0
        -- the old cells are what was read
        have hold : ∀ j, j < n * sz → w.cell? ⟨b, j, none⟩ = us[j]? := by
          intro j hj
          cases hp with
          | rodd => exact absurd hj (by simp)
          | rsl _ _ _ _ _ _ _ u hn' ho' hc' hl' h1' hS' hk' =>
            have hcs := cells_of_slice g hl' hS'
            have hlen : j < ((List.range (n * sz)).map fun k => u (k / sz) (k % sz)).length := by simpa using hj
            have h0 := g.snap (hcs j _ (List.getElem?_eq_getElem hlen))
            have hr2 := loadCellsFrom_run (P := P) (w := w) (b := b) (off := 0) (n * sz) 0 #[] ((List.range (n * sz)).map fun k => u (k / sz) (k % sz)) (by simp) (fun j v hj => by
              rw [Nat.zero_add]
              exact g.snap (hcs j v hj))
            simp only [Builtin.firstCells, loadCells, hr2] at hur
            simp only [Result.ok.injEq, and_true] at hur
            have hus : (List.range (n * sz)).map (fun k => u (k / sz) (k % sz)) = us := by simpa using hur
            rw [Nat.zero_add] at h0
            rw [h0, ← hus, List.getElem?_eq_getElem hlen]
        rw [← hold j hjn, cell_at h3]
      · rw [if_pos (by omega), List.getElem?_append_right (by omega), hul]
end
end Go.Proofs.YtiipaliigpkfhaaGreat.Ab
