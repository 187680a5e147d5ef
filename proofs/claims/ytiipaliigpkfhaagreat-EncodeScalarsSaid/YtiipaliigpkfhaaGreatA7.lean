/- Part 7: literals, slices that are cut, slices that grow. -/
import Derived.Test.YtiipaliigpkfhaaGreatA6
set_option linter.unusedVariables false
set_option linter.unusedSimpArgs false
namespace Go.Proofs.YtiipaliigpkfhaaGreat.Ab
open Go Go.RowKit

theorem Rel.data {E : Env} {x : AV} {v : Value} (h : Rel E x v) (hl : LF x) : Rel E.data x v := h.lf hl (fun h => h)

/-- Its operands, paired. -/
theorem parts_rel {E : Env} {T : List AV} {ρ : Operand → Value} (ps : Array (Nat × Operand)) (ht : ∀ y ∈ ps, Rel E (opdA T y.2) (ρ y.2)) :
    ((ps.map fun (i, x) => (i, ρ x)).toList).length = (ps.toList.map fun (i, x) => (i, opdA T x)).length ∧
    ∀ (j : Nat) (p : Nat × AV), (ps.toList.map fun (i, x) => (i, opdA T x))[j]? = some p → ∃ q, ((ps.map fun (i, x) => (i, ρ x)).toList)[j]? = some q ∧ q.1 = p.1 ∧ Rel E p.2 q.2 := by
  refine ⟨by simp, fun j p hj => ?_⟩
  rw [List.getElem?_map] at hj
  cases hx : ps.toList[j]? with
  | none => rw [hx] at hj; cases hj
  | some y =>
    rw [hx] at hj
    simp only [Option.map_some, Option.some.injEq] at hj
    subst hj
    refine ⟨(y.1, ρ y.2), ?_, rfl, ht y (by rw [← Array.mem_toList_iff]; exact List.mem_of_getElem? hx)⟩
    rw [Array.toList_map, List.getElem?_map, hx]
    rfl

/-- Where a struct's fields lie. -/
def placesOf (P : Program) (t : TypeId) : Option (Array (Nat × Nat)) :=
  match pureEval P (underlying t) with
  | some (.struct fields) => pureEval P (fields.mapM fun f => do pure (f.offset, ← Go.sizeOf f.type))
  | _ => none

section
variable {P : Program} {o : Oper} {T : List AV} {H : AHeap}

theorem opS_build {t : TypeId} {ps : Array (Nat × Operand)} {z : Value} {zs : List AV} {pl : Array (Nat × Nat)} {cs : List AV} (ho : o.op = .build t ps) (hz : pureEval P (zeroValue t) = some z) (hzc : constA z = .agg zs)
    (hpl : placesOf P t = some pl) (hf : fillA (fun i => pl[i]?) zs (ps.toList.map fun (i, x) => (i, opdA T x)) = some cs) : OpS P o T H (.agg cs) := by
  refine opS_intro fun E w0 w ρ hg ht => ?_
  have hzr := constA_rel E _ z (Nat.lt_succ_self _)
  rw [hzc] at hzr
  have hzra : RA E zs z.cells := cells_rel hzr rfl
  obtain ⟨hl, hr⟩ := parts_rel ps (fun y hy => ht y.2 (by simp only [ho, Op.operands]; simp only [List.mem_toArray, List.mem_map]; exact ⟨y, by simpa using hy, rfl⟩))
  obtain ⟨out, hout, hra⟩ := fill_RA _ _ _ _ _ hzra hl hr hf
  refine ⟨.agg out, ?_, .agg _ _ hra.1 hra.2⟩
  unfold placesOf at hpl
  split at hpl
  · rename_i fields hu
    simp only [execOp, ho, Instr.build, Sem.run_bind, pureEval_run hz, pureEval_run hu, Result.andThen_ok]
    have := pureEval_run hpl w
    rw [this]
    simp only [Result.andThen_ok]
    rw [hout]
    simp only [Sem.run_pure, Result.andThen_ok]
  · cases hpl

/-- The rows of a literal. -/
def rowOf (sz : Nat) (cs : List AV) : Nat → List AV := fun i => (cs.drop (i * sz)).take sz

theorem rowOf_length {sz n : Nat} {cs : List AV} (h : cs.length = n * sz) {i : Nat} (hi : i < n) : (rowOf sz cs i).length = sz := by
  have : (i + 1) * sz ≤ n * sz := Nat.mul_le_mul_right _ hi
  rw [Nat.add_mul] at this
  simp [rowOf]; omega

theorem rowOf_get {sz : Nat} {cs : List AV} {i j : Nat} {x : AV} (h : (rowOf sz cs i)[j]? = some x) : cs[i * sz + j]? = some x := by
  unfold rowOf at h
  rw [List.getElem?_take] at h
  split at h
  · rwa [List.getElem?_drop] at h
  · cases h

theorem zeros_RA {E : Env} {zs : List AV} {zv : Array Value} (h : RA E zs zv) (m : Nat) (hz : m = 0 ∨ 0 < zs.length) : RA E ((List.range m).map fun i => zs.getD (i % zs.length) .any) ((Array.range m).map (zv[· % zv.size]!)) := by
  refine ⟨by simp, fun j x hj => ?_⟩
  rw [List.getElem?_map] at hj
  cases hr : (List.range m)[j]? with
  | none => rw [hr] at hj; cases hj
  | some i =>
    rw [hr] at hj
    simp only [Option.map_some, Option.some.injEq] at hj
    have hjm : j < m := by simpa using (List.getElem?_eq_some_iff.1 hr).1
    have : i = j := by
      have := List.getElem?_range hjm
      rw [hr] at this
      simpa using this
    subst this
    subst hj
    have hpos : 0 < zs.length := by omega
    have hlt : i % zs.length < zs.length := Nat.mod_lt _ hpos
    have e : ((Array.range m).map (zv[· % zv.size]!)).getD i undef = zv.getD (i % zs.length) undef := by
      have h1 : (Array.range m)[i]? = some i := by simp [hjm]
      simp only [Array.getD_eq_getD_getElem?, Array.getElem?_map, h1, Option.map_some, Option.getD_some]
      rw [h.1]
      have hlt' : i % zs.length < zv.size := by rw [h.1]; exact hlt
      simp [hlt']
    rw [e]
    have hg : zs[i % zs.length]? = some (zs.getD (i % zs.length) .any) := by simp [List.getD_eq_getElem?_getD, hlt]
    exact h.2 _ _ hg

theorem opA_buildSlice {t elem : TypeId} {n sz : Nat} {ps : Array (Nat × Operand)} {z : Value} {zs cs : List AV} (ho : o.op = .buildSlice t n ps) (hu : pureEval P (underlying t) = some (.slice elem)) (hs : pureEval P (Go.sizeOf elem) = some sz)
    (hz : pureEval P (zeroValue elem) = some z) (hzc : (constA z).cells = zs) (hzn : notAny (constA z) = true) (hzl : 0 < zs.length) (hbig : n * sz ≤ 2 ^ 24)
    (hf : fillA (fun i => some (i * sz, sz)) ((List.range (n * sz)).map fun i => zs.getD (i % zs.length) .any) (ps.toList.map fun (i, x) => (i, opdA T x)) = some cs)
    (hcl : cs.length = n * sz) (hlf : ∀ x ∈ cs, LF x) (h1c : ∀ x ∈ cs, oneC x = true) (hn : n ≤ maxLen) : OpA P o T H (.rsl false sz n (rowOf sz cs) .tight) H [] := by
  refine opA_run fun E w0 w ρ hg ht => ?_
  have hzr := constA_rel E _ z (Nat.lt_succ_self _)
  have hzra : RA E zs z.cells := hzc ▸ cells_rel hzr hzn
  obtain ⟨hl, hr⟩ := parts_rel ps (fun y hy => ht y.2 (by simp only [ho, Op.operands]; simp only [List.mem_toArray, List.mem_map]; exact ⟨y, by simpa using hy, rfl⟩))
  obtain ⟨out, hout, hra⟩ := fill_RA _ _ _ _ _ (zeros_RA hzra (n * sz) (.inr hzl)) hl hr hf
  refine ⟨E.withS w.heap.size (out[·]?), .slice (some ⟨w.heap.size, 0, none⟩) n n, w.alloc (.cells out elem), ?_, row_ext _ _ hg out elem, hg.row out elem, ?_⟩
  · simp only [execOp, ho, Instr.buildSlice, Sem.run_bind, pureEval_run hu, pureEval_run hs, Result.andThen_ok]
    rw [if_neg (by omega)]
    by_cases h0 : n * sz = 0
    · simp only [h0, if_true, Sem.run_pure, Result.andThen_ok]
      have e : (Array.range 0).map ((#[] : Array Value)[· % (#[] : Array Value).size]!) = (Array.range (n * sz)).map (z.cells[· % z.cells.size]!) := by rw [h0]; simp
      simp only [Sem.run_bind, Sem.run_pure, Result.andThen_ok] at *
      rw [e, hout]
      simp only [newRow, newObj, Sem.run_bind, Sem.run, Sem.run_pure, Result.andThen_ok]
      rfl
    · simp only [h0, if_false, Sem.run_bind, pureEval_run hz, Sem.run_pure, Result.andThen_ok]
      rw [hout]
      simp only [newRow, newObj, Sem.run_bind, Sem.run, Sem.run_pure, Result.andThen_ok]
      rfl
  · have hos : out.size = n * sz := by rw [hra.1, hcl]
    have hle := withS_le E w.heap.size (out[·]?)
    refine .rsl sz n _ .tight w.heap.size 0 n (fun i j => out.getD (i * sz + j) undef) hn rfl (Nat.le_refl _) (fun i hi => rowOf_length hcl hi) (fun i hi x hx => h1c x (List.mem_of_mem_drop (List.mem_of_mem_take hx))) (fun i hi j x hj => ?_) (fun i hi j x hj => ?_)
    · have hj' := rowOf_get hj
      rw [row_S hg, Nat.zero_add]
      have hlt : i * sz + j < out.size := by rw [hra.1]; exact (List.getElem?_eq_some_iff.1 hj').1
      simp [Array.getD_eq_getD_getElem?, hlt]
    · have hj' := rowOf_get hj
      exact ((hra.2 _ x hj').data (hlf x (List.mem_of_getElem? hj'))).mono hle.data

/-- Cutting. -/
def optInt (T : List AV) : Option Operand → Option (Option Int)
  | none => some none
  | some q => match opdA T q with
    | .sc (.int _ i) => some (some i)
    | _ => none

theorem optInt_eval {E : Env} {ρ : Operand → Value} {q : Option Operand} (ht : ∀ x, q = some x → Rel E (opdA T x) (ρ x)) {r : Option Int} (h : optInt T q = some r) :
    (q = none ∧ r = none) ∨ ∃ x k i, q = some x ∧ r = some i ∧ ρ x = .int k i := by
  cases q with
  | none => simp [optInt] at h; exact .inl ⟨rfl, h.symm⟩
  | some x =>
    simp only [optInt] at h
    split at h
    · rename_i k i hx
      simp only [Option.some.injEq] at h
      have hr := ht x rfl
      rw [hx] at hr
      generalize hv : ρ x = v at hr
      cases hr
      exact .inr ⟨x, k, i, rfl, h.symm, hv⟩
    · cases h

theorem sliceBound_ok {w : World} {k : IntKind} {i : Int} {y : Nat} {code : BoundsCode} (h0 : 0 ≤ i) (h1 : i ≤ y) : (Instr.sliceBound (.int k i) y code).run P w = .ok i.toNat w := by
  simp only [Instr.sliceBound, asIntOf, Sem.run_bind, Sem.run_pure, Result.andThen_ok, h0, h1, and_self, if_true]

theorem sliceBounds_ok {E : Env} {ρ : Operand → Value} {w : World} {lo hi : Option Operand} (htl : ∀ x, lo = some x → Rel E (opdA T x) (ρ x)) (hth : ∀ x, hi = some x → Rel E (opdA T x) (ρ x)) {l h : Option Int} (hl : optInt T lo = some l) (hh : optInt T hi = some h) {n c : Nat} (hnc : n ≤ c)
    (h1 : 0 ≤ l.getD 0) (h2 : l.getD 0 ≤ h.getD n) (h3 : h.getD n ≤ n) : (Instr.sliceBounds true n c (lo.map ρ) (hi.map ρ) none).run P w = .ok ((l.getD 0).toNat, (h.getD n).toNat, c) w := by
  unfold Instr.sliceBounds
  rcases optInt_eval hth hh with ⟨rfl, rfl⟩ | ⟨x, k, i, rfl, rfl, hx⟩ <;> rcases optInt_eval htl hl with ⟨rfl, rfl⟩ | ⟨y, k', i', rfl, rfl, hy⟩
  · simp
  · simp only [Option.map_some, Option.map_none, hy, Option.getD_some, Option.getD_none] at *
    simp only [Sem.run_bind, Sem.run_pure, Result.andThen_ok, pure_bind]
    rw [sliceBound_ok (by omega) (by omega)]
    simp
  · simp only [Option.map_some, Option.map_none, hx, Option.getD_some, Option.getD_none] at *
    simp only [Sem.run_bind, Sem.run_pure, Result.andThen_ok, pure_bind]
    rw [sliceBound_ok (by omega) (by omega)]
    simp
  · simp only [Option.map_some, Option.map_none, hx, hy, Option.getD_some, Option.getD_none] at *
    simp only [Sem.run_bind, Sem.run_pure, Result.andThen_ok, pure_bind]
    rw [sliceBound_ok (by omega) (by omega)]
    simp only [Result.andThen_ok, Sem.run_bind]
    rw [sliceBound_ok (by omega) (by omega)]
    simp

theorem slice_rel {E : Env} {nl : Bool} {sz n : Nat} {el : Nat → List AV} {own : Own} {A : Option Addr} {c l h m : Nat} (hr : Rel E (.rsl nl sz n el own) (.slice A n c)) (h1 : l ≤ h) (h2 : h ≤ n) (h3 : h ≤ m) (h4 : m ≤ c) (own' : Own)
    (ho : own' = .non ∨ own' = .tight ∧ m = h) : Rel E (.rsl nl sz (h - l) (fun i => el (i + l)) own') (.slice (if m = l then A else A.map (·.add (l * sz))) (h - l) (m - l)) := by
  cases hr with
  | rnil sz el own hown =>
    have : h = 0 := by omega
    subst this
    have : l = 0 := by omega
    subst this
    have : m = 0 := by omega
    subst this
    simp only [if_true, Nat.sub_self]
    exact .rnil _ _ _ (by rcases ho with rfl | ⟨rfl, _⟩ <;> simp)
  | rodd sz el own a hown =>
    have : h = 0 := by omega
    subst this
    have : l = 0 := by omega
    subst this
    have : m = 0 := by omega
    subst this
    simp only [if_true, Nat.sub_self]
    exact .rodd _ _ _ a (by rcases ho with rfl | ⟨rfl, _⟩ <;> simp)
  | rsl sz n el own b off c u hn ho' hc hlen h1c hS hk =>
    have hown : own'.ok E (h - l) b (if m = l then off else off + l * sz) (m - l) := by
      rcases ho with rfl | ⟨rfl, rfl⟩
      · exact Nat.sub_le_sub_right h3 l
      · rfl
    have e : (if m = l then (some ⟨b, off, none⟩ : Option Addr) else (some (⟨b, off, none⟩ : Addr)).map (·.add (l * sz))) = some ⟨b, if m = l then off else off + l * sz, none⟩ := by
      split
      · rfl
      · simp [add_plain']
    rw [e]
    refine .rsl sz (h - l) _ own' b _ (m - l) (fun i j => u (i + l) j) (by omega) hown (by omega) (fun i hi => hlen _ (by omega)) (fun i hi => h1c _ (by omega)) (fun i hi j x hj => ?_) (fun i hi j x hj => hk _ (by omega) j x hj)
    rw [if_neg (by omega)]
    have := hS (i + l) (by omega) j x hj
    rw [Nat.add_mul] at this
    rw [show off + l * sz + i * sz + j = off + (i * sz + l * sz) + j by omega]
    exact this

theorem rel_slice_form {E : Env} {nl : Bool} {sz n : Nat} {el : Nat → List AV} {own : Own} {v : Value} (hr : Rel E (.rsl nl sz n el own) v) : ∃ A c, v = .slice A n c ∧ n ≤ c ∧ (own = .tight → c = n) := by
  cases hr with
  | rnil => exact ⟨_, _, rfl, Nat.le_refl _, fun _ => rfl⟩
  | rodd => exact ⟨_, _, rfl, Nat.le_refl _, fun _ => rfl⟩
  | rsl _ _ _ _ _ _ _ _ _ ho hc => exact ⟨_, _, rfl, hc, fun e => by subst e; exact ho⟩

theorem opS_slice {t elem : TypeId} {p : Operand} {lo hi : Option Operand} {nl : Bool} {sz n : Nat} {el : Nat → List AV} {own : Own} {l h : Option Int} (ho : o.op = .slice t p lo hi none)
    (hu : pureEval P (underlying t) = some (.slice elem)) (hs : pureEval P (Go.sizeOf elem) = some sz) (hp : opdA T p = .rsl nl sz n el own) (hl : optInt T lo = some l) (hh : optInt T hi = some h)
    (h1 : 0 ≤ l.getD 0) (h2 : l.getD 0 ≤ h.getD n) (h3 : h.getD n ≤ n) : OpS P o T H (.rsl nl sz ((h.getD n).toNat - (l.getD 0).toNat) (fun i => el (i + (l.getD 0).toNat)) .non) := by
  refine opS_intro fun E w0 w ρ hg ht => ?_
  have hr := ht p (by simp [ho, Op.operands, Call.operands])
  rw [hp] at hr
  generalize hv : ρ p = v at hr
  obtain ⟨A, c, rfl, hc, _⟩ := rel_slice_form hr
  refine ⟨_, ?_, slice_rel (l := (l.getD 0).toNat) (h := (h.getD n).toNat) (m := c) hr (by omega) (by omega) (by omega) (Nat.le_refl _) .non (.inl rfl)⟩
  simp only [execOp, ho, Instr.sliceAt, hv, Sem.run_bind, pureEval_run hu, Result.andThen_ok, Instr.slice, Option.map_none]
  rw [sliceBounds_ok (fun x e => ht x (by simp [ho, Op.operands, e])) (fun x e => ht x (by simp [ho, Op.operands, e])) hl hh hc h1 h2 h3]
  simp only [Result.andThen_ok, pureEval_run hs, Sem.run_pure, Sem.run_bind]

theorem opS_slice3 {t elem : TypeId} {p q1 q2 : Operand} {lo : Option Operand} {nl : Bool} {sz n : Nat} {el : Nat → List AV} {own : Own} {l : Option Int} {h m : Int} (ho : o.op = .slice t p lo (some q1) (some q2))
    (hu : pureEval P (underlying t) = some (.slice elem)) (hs : pureEval P (Go.sizeOf elem) = some sz) (hp : opdA T p = .rsl nl sz n el own) (hl : optInt T lo = some l) (hh : optInt T (some q1) = some (some h)) (hm : optInt T (some q2) = some (some m))
    (h1 : 0 ≤ l.getD 0) (h2 : l.getD 0 ≤ h) (h3 : h = m) (h4 : m ≤ n) : OpS P o T H (.rsl nl sz (h.toNat - (l.getD 0).toNat) (fun i => el (i + (l.getD 0).toNat)) .tight) := by
  refine opS_intro fun E w0 w ρ hg ht => ?_
  have hr := ht p (by simp [ho, Op.operands, Call.operands])
  rw [hp] at hr
  generalize hv : ρ p = v at hr
  obtain ⟨A, c, rfl, hc, _⟩ := rel_slice_form hr
  refine ⟨_, ?_, slice_rel (l := (l.getD 0).toNat) (h := h.toNat) (m := m.toNat) hr (by omega) (by omega) (by omega) (by omega) .tight (.inr ⟨rfl, by omega⟩)⟩
  rcases optInt_eval (fun x e => ht x (by cases e; simp [ho, Op.operands])) hh with ⟨e, _⟩ | ⟨x, k, i, e, e', hx⟩
  · cases e
  cases e
  cases e'
  rcases optInt_eval (fun x e => ht x (by cases e; simp [ho, Op.operands])) hm with ⟨e, _⟩ | ⟨x, k, i, e, e', hx2⟩
  · cases e
  cases e
  cases e'
  simp only [execOp, ho, Instr.sliceAt, hv, Sem.run_bind, pureEval_run hu, Result.andThen_ok, Instr.slice, Option.map_some, hx, hx2, Instr.sliceBounds]
  rw [sliceBound_ok (by omega) (by omega)]
  simp only [Result.andThen_ok]
  rw [sliceBound_ok (by omega) (by omega)]
  simp only [Result.andThen_ok]
  rcases optInt_eval (fun x e => ht x (by simp [ho, Op.operands, e])) hl with ⟨rfl, rfl⟩ | ⟨y, k, i, rfl, rfl, hy⟩
  · simp only [Option.map_none, Option.getD_none, Sem.run_pure, Result.andThen_ok, pureEval_run hs, Sem.run_bind]
    rfl
  · simp only [Option.map_some, hy, Option.getD_some, Sem.run_bind] at *
    rw [sliceBound_ok (by omega) (by omega)]
    simp only [Result.andThen_ok, Sem.run_pure, pureEval_run hs, Sem.run_bind]
end
end Go.Proofs.YtiipaliigpkfhaaGreat.Ab
