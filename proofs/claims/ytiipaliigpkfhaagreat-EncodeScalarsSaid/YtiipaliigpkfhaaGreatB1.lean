/- Part 10: append as an operation; bytes and strings; what is compared with nil; arrays that are values. -/
import Derived.Test.YtiipaliigpkfhaaGreatA9
set_option linter.unusedVariables false
set_option linter.unusedSimpArgs false
namespace Go.Proofs.YtiipaliigpkfhaaGreat.Ab
open Go Go.RowKit

section
variable {P : Program} {o : Oper} {T : List AV} {H : AHeap}

def catEl (n : Nat) (el el2 : Nat → List AV) : Nat → List AV := fun i => if i < n then el i else el2 (i - n)

theorem opA_append_tok {c : Call} {p q : Operand} {sz bytes n m t : Nat} {nl : Bool} {el el2 : Nat → List AV} (hc : AppT P c p q sz bytes) (ho : o.op = .call c) (hp : opdA T p = .rsl nl sz n el (.tok t)) (hq : srcA sz (opdA T q) = some (m, el2))
    (hH : H[t]? = some (.tail n sz)) (hm : 0 < m) (hbig : (n + m) * bytes ≤ 2 ^ 46) (hlen : n + m < 2 ^ 62) : OpA P o T H (.rsl false sz (n + m) (catEl n el el2) (.tok t)) (H.set t (.tail (n + m) sz)) [t] := by
  refine opA_run fun E w0 w ρ hg ht => ?_
  have hr := ht p (by simp [ho, Op.operands, Call.operands, hc.args])
  rw [hp] at hr
  have htl : t < H.length := (List.getElem?_eq_some_iff.1 hH).1
  have hset : setL H t (.tail (n + m) sz) = H.set t (.tail (n + m) sz) := by unfold setL; rw [if_pos htl]
  generalize hv : ρ p = v at hr
  cases hr with
  | rnil _ _ _ h => rcases h with h | h <;> cases h
  | rodd _ _ _ _ h => rcases h with h | h <;> cases h
  | rsl _ _ _ _ b off k u hn ho' hkc hl h1 hS hk' =>
    obtain ⟨hG, rfl, _⟩ := ho'
    have hr' : Rel E (.rsl false sz n el (.tok t)) (.slice (some ⟨b, 0, none⟩) n k) := .rsl sz n el _ b 0 k u hn ⟨hG, rfl, hkc⟩ hkc hl h1 hS hk'
    by_cases hcap : n + m ≤ k
    · have := append_stays hc (ht q (by simp [ho, Op.operands, Call.operands, hc.args])) hg ho hr' hv hG hH hq hm hcap
      rw [hset] at this
      exact this
    · obtain ⟨b', c', arr, Ty, h1', h2', h3', h4', h5', h6', h7', h8'⟩ := hg.obj hH
      have := append_moves (W := (· ∈ [t])) hc (ht q (by simp [ho, Op.operands, Call.operands, hc.args])) hg ho (hv ▸ hr') hv hq (by omega) hbig hlen (Nat.le_refl H.length) (Nat.le_of_lt htl) (fun _ => by simp) (fun j hj => h8' j (by omega))
      rw [hset] at this
      exact this

theorem opA_append_new {c : Call} {p q : Operand} {sz bytes n m : Nat} {nl : Bool} {el el2 : Nat → List AV} {own : Own} {sz' : Nat} (hc : AppT P c p q sz bytes) (ho : o.op = .call c) (hp : opdA T p = .rsl nl sz' n el own) (hq : srcA sz (opdA T q) = some (m, el2))
    (hown : own = .tight ∨ nl = true) (hsz : n = 0 ∨ sz' = sz) (hm : 0 < m) (hbig : (n + m) * bytes ≤ 2 ^ 46) (hlen : n + m < 2 ^ 62) : OpA P o T H (.rsl false sz (n + m) (catEl n el el2) (.tok H.length)) (H ++ [.tail (n + m) sz]) [] := by
  refine opA_run fun E w0 w ρ hg ht => ?_
  have hr := ht p (by simp [ho, Op.operands, Call.operands, hc.args])
  rw [hp] at hr
  have hset : setL H H.length (.tail (n + m) sz) = H ++ [.tail (n + m) sz] := by unfold setL; rw [if_neg (Nat.lt_irrefl _)]
  generalize hv : ρ p = v at hr
  have key : ∃ A k own', v = .slice A n k ∧ k < n + m ∧ Rel E (.rsl nl sz n el own') v := by
    cases hr with
    | rnil _ _ _ h => exact ⟨_, _, own, rfl, by omega, .rnil _ _ _ h⟩
    | rodd _ _ _ a h => exact ⟨_, _, own, rfl, by omega, .rodd _ _ _ a h⟩
    | rsl _ _ _ _ b off k u hn ho' hkc hl h1 hS hk' =>
      rcases hown with rfl | h
      · have : k = n := ho'
        subst this
        rcases hsz with rfl | rfl
        · exact ⟨_, _, .tight, rfl, by omega, .rsl sz 0 el _ b off 0 u hn rfl (Nat.le_refl _) (fun i hi => by omega) (fun i hi => by omega) (fun i hi => by omega) (fun i hi => by omega)⟩
        · exact ⟨_, _, .tight, rfl, by omega, .rsl sz' _ el _ b off _ u hn rfl hkc hl h1 hS hk'⟩
      · cases h
  obtain ⟨A, k, own', rfl, hk, hr'⟩ := key
  have := append_moves (W := (· ∈ [])) hc (ht q (by simp [ho, Op.operands, Call.operands, hc.args])) hg ho (hv ▸ hr') hv hq hk hbig hlen (Nat.le_refl H.length) (Nat.le_refl _) (fun h => absurd h (Nat.lt_irrefl _)) (fun j _ => (hg.fresh (Nat.le_refl _)).2 j)
  rw [hset] at this
  exact this

theorem opS_append_none {c : Call} {p q : Operand} {sz bytes n : Nat} {nl : Bool} {el el2 : Nat → List AV} {own : Own} {sz' : Nat} (hc : AppT P c p q sz bytes) (ho : o.op = .call c) (hp : opdA T p = .rsl nl sz' n el own) (hq : srcA sz (opdA T q) = some (0, el2)) :
    OpS P o T H (.rsl nl sz' n el own) := by
  refine opS_intro fun E w0 w ρ hg ht => ?_
  have hr := ht p (by simp [ho, Op.operands, Call.operands, hc.args])
  rw [hp] at hr
  generalize hv : ρ p = v at hr
  refine ⟨v, ?_, hr⟩
  obtain ⟨A, k, rfl, hk, _⟩ := rel_slice_form hr
  obtain ⟨hcal, hargs, ty, t2, elem, i, z, d, hat, hu, hs, hi, hib, hz, hzs, hu2, hd⟩ := hc
  have hd' : ∀ (w : World), (underlying t2).run P w = .ok d w := pureEval_run hu2
  obtain ⟨hvlen0, vs, hvl, hvr, hv1, hv2⟩ := src_run (P := P) hg (ht q (by simp [ho, Op.operands, Call.operands, hargs])) hq
  have hvs : vs = [] := List.length_eq_zero_iff.1 (by rw [hvl]; simp)
  subst hvs
  have hrun : (Builtin.append_ c.argTypes o.type #[ρ p, ρ q]).run P w = .ok (.slice A n k) w := by
    rw [hat, hv]
    unfold Builtin.append_
    simp only [List.getElem?_toArray, List.getElem?_cons_zero, List.getElem?_cons_succ, Sem.run_bind, pureEval_run hu, pureEval_run hs, Result.andThen_ok, hd', Sem.run_pure]
    have hz0 : (match d with | .int _ => true | _ => false) = false := by
      cases d <;> first | rfl | exact absurd rfl (hd _)
    simp only [Bool.false_eq_true, if_false, Bool.not_false, if_true, Sem.run_bind, hvlen0, Result.andThen_ok]
    rw [if_pos (by omega)]
    simp only [Sem.run_bind, hvr, Result.andThen_ok]
    cases A with
    | none => simp
    | some ad => simp [storeCells]
  simp only [execOp, ho, resolve, hcal, hargs, invoke, builtin, pure_bind]
  rw [Sem.run_bind]
  have e : (#[p, q] : Array Operand).map ρ = #[ρ p, ρ q] := by simp
  rw [e, hrun]
  rfl

/-! ### Strings as bytes, bytes as strings -/
theorem opA_strBytes {src dst elem : TypeId} {p : Operand} {s : ByteArray} (ho : o.op = .convert src dst p) (hu1 : pureEval P (underlying src) = some .string) (hu2 : pureEval P (underlying dst) = some (.slice elem)) (hu3 : pureEval P (underlying elem) = some (.int .u8))
    (hp : opdA T p = .sc (.string s)) (hs : s.size < 2 ^ 62) : OpA P o T H (.rsl false 1 s.size (strEl s) .non) H [] := by
  refine opA_run fun E w0 w ρ hg ht => ?_
  have hr := ht p (by simp [ho, Op.operands])
  rw [hp] at hr
  generalize hv : ρ p = v at hr
  cases hr with
  | sc v hpl =>
    obtain ⟨c, hc1, hc2, hdraw⟩ := run_appendCap (P := P) s.size 0 elem (fun cap => do
      let elems : Array Value := s.data.map fun b => .int .u8 b.toNat
      let a ← newRow elem (elems ++ Array.replicate (cap - s.size) (.int .u8 0))
      markStringish a
      pure (Value.slice (some a) s.size cap)) w (by omega)
    let arr : Array Value := (s.data.map fun b => .int .u8 b.toNat) ++ Array.replicate (c - s.size) (.int .u8 0)
    have g1 := hg.drew
    have ex1 := drew_ext (E := E) (H := H) (w := w) H.length (· ∈ ([] : List Nat))
    generalize w.drew = wd at *
    let w1 := (wd.alloc (.cells arr elem)).freeze ⟨wd.heap.size, arr.size, none⟩ 1
    have hblk : w1.heap[wd.heap.size]? = some (.cells arr elem (arr.size, arr.size + 1)) := by
      have h0 := heap_alloc_new wd (.cells arr elem)
      show ((wd.alloc (.cells arr elem)).freeze ⟨wd.heap.size, arr.size, none⟩ 1).heap[wd.heap.size]? = _
      unfold World.freeze
      rw [if_neg (by omega)]
      simp only [Array.getElem?_modify, if_true, h0, Option.map_some]
      simp
    have hoth : ∀ b, b ≠ wd.heap.size → w1.heap[b]? = (wd.alloc (.cells arr elem)).heap[b]? := by
      intro b hb
      simp [w1, World.freeze, Array.getElem?_modify, Ne.symm hb]
    have hold : ∀ b, b < wd.heap.size → w1.heap[b]? = wd.heap[b]? := fun b hb => (hoth b (by omega)).trans (Below.heap_alloc _ _ _ hb)
    have hsize : w1.heap.size = wd.heap.size + 1 := by
      have := alloc_size wd (.cells arr elem)
      simp [w1, World.freeze]
    have g2 : Good E H w0 w1 := by
      refine ⟨?_, ?_, ?_, g1.sep, g1.fresh, fun h => by have := g1.φlt h; omega⟩
      · refine g1.below.trans ⟨rfl, rfl, rfl, by omega, fun k hk => hold k (Nat.lt_of_lt_of_le hk g1.below.size)⟩
      · intro b o u h
        rw [cell_same (hold b (g1.Slt h))]
        exact g1.snap h
      · intro l o h
        exact (g1.obj h).step h (.refl E) (fun _ h => h) (fun _ => rfl) (fun _ _ _ _ h => h) (fun b hb => hold b (g1.ownlt hb))
    have hcell : ∀ o u, arr[o]? = some u → w1.cell? ⟨wd.heap.size, o, none⟩ = some u := by
      intro o u h
      unfold World.cell?
      rw [hblk]
      simpa using h
    have g3 := g2.stay (b := wd.heap.size) (f := (arr[·]?)) (fun l hl => absurd (g1.ownlt hl) (Nat.lt_irrefl _)) hcell
    have e2 : Ext H.length (· ∈ ([] : List Nat)) E H wd (E.withS wd.heap.size (arr[·]?)) H w1 := ⟨withS_le _ _ _, by omega, Nat.le_refl _, fun _ _ => rfl, fun _ _ hl => hold _ (g1.ownlt hl), fun _ => rfl, fun {x} hb h => ⟨hold _ hb, h, fun o => (by have hx' : x ≠ wd.heap.size := (by omega); simp [Env.withS, hx'])⟩⟩
    refine ⟨E.withS wd.heap.size (arr[·]?), .slice (some ⟨wd.heap.size, 0, none⟩) s.size c, w1, ?_, ex1.trans e2, g3, ?_⟩
    · simp only [execOp, ho, hv, convert, Sem.run_bind, pureEval_run hu1, pureEval_run hu2, pureEval_run hu3, Result.andThen_ok, Conv.stringToBytes]
      simp only [Sem.run_bind] at hdraw
      rw [hdraw]
      simp only [newRow, newObj, Sem.run_bind, Sem.run, Sem.run_pure, Result.andThen_ok, markStringish, shape, freeze]
      have h0 := heap_alloc_new wd (.cells arr elem)
      have hsh : World.shape? { wd with heap := wd.heap.push (.cells arr elem) } wd.heap.size = some (elem, arr.size) := by
        unfold World.shape?
        have : ({ wd with heap := wd.heap.push (.cells arr elem) } : World).heap[wd.heap.size]? = some (.cells arr elem) := h0
        rw [this]
      simp only [arr] at hsh
      simp only [hsh, Sem.run, Result.andThen_ok]
      rfl
    · have hS : ∀ o, (E.withS wd.heap.size (arr[·]?)).S wd.heap.size o = arr[o]? := fun o => by simp [Env.withS, S_new_none g1]
      refine .rsl 1 s.size (strEl s) .non _ 0 c (fun i j => .int .u8 ((s.data.toList.getD i 0).toNat : Int)) hc2 hc1 hc1 (fun i hi => rfl) (fun i hi x hx => by simp [strEl] at hx; subst hx; rfl) (fun i hi j x hj => ?_) (fun i hi j x hj => ?_)
      · cases j with
        | succ j => simp [strEl] at hj
        | zero =>
          rw [hS]
          have hi' : i < s.data.size := hi
          have hi2 : i < s.data.toList.length := by simpa using hi'
          simp only [arr, Nat.zero_add, Nat.mul_one, Nat.add_zero]
          rw [Array.getElem?_append_left (by simpa using hi'), Array.getElem?_map]
          have e3 : s.data[i]? = some (s.data.toList.getD i 0) := by
            rw [List.getD_eq_getElem?_getD, List.getElem?_eq_getElem hi2]
            simp [hi']
          rw [e3]
          rfl
      · cases j with
        | succ j => simp [strEl] at hj
        | zero =>
          simp [strEl] at hj
          subst hj
          have e2 : s.data[i]?.getD 0 = s.data.toList.getD i 0 := by simp
          rw [e2]
          exact Rel.sc (.int .u8 _) rfl
end
end Go.Proofs.YtiipaliigpkfhaaGreat.Ab
