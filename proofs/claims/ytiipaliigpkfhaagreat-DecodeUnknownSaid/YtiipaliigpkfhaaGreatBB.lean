/- Part 10: append as an operation; bytes and strings; what is compared with nil; arrays that are values. -/
import Derived.Test.YtiipaliigpkfhaaGreatAA
import Derived.Laws.BytesString
import Derived.Laws.Cells
set_option linter.unusedVariables false
set_option linter.unusedSimpArgs false
namespace Go.Proofs.YtiipaliigpkfhaaGreat.Ab
open Go Go.RowKit

section
variable {P : Program} {o : Oper} {T : List AV} {H : AHeap}

def catEl (n : Nat) (el el2 : Nat → List AV) : Nat → List AV := fun i => if i < n then el i else el2 (i - n)

theorem opA_append_tok {c : Call} {p q : Operand} {sz bytes n m t : Nat} {nl : Bool} {el el2 : Nat → List AV} (hc : AppT P c p q sz bytes) (ho : o.op = .call c) (hp : opdA T p = .rsl nl sz n el (.tok t)) (hq : srcA sz (opdA T q) = some (m, el2))
    (hH : H[t]? = some (.tail n sz)) (hm : 0 < m) (hbig : (n + m) * bytes ≤ 2 ^ 46) (hlen : n + m < 2 ^ 62) : OpA P o T H (.rsl false sz (n + m) (catEl n el el2) (.tok t)) (H.set t (.tail (n + m) sz)) [t] := by
  refine opA_run fun E w0 w ρ hg ht => ?_
  have hr := ht p (by simp [ho, Op.operands, Call.operands, hc.args])
  rw [hp] at hr
  have htl : t < H.length := (List.getElem?_eq_some_iff.1 hH).1
  have hset : setL H t (.tail (n + m) sz) = H.set t (.tail (n + m) sz) := by unfold setL; rw [if_pos htl]
  generalize hv : ρ p = v at hr
  cases hr with
  | rnil _ _ _ h => rcases h with h | h <;> cases h
  | rodd _ _ _ _ h => rcases h with h | h <;> cases h
  | rsl _ _ _ _ b off k u hn ho' hkc hl h1 hS hk' =>
    obtain ⟨hG, rfl, _⟩ := ho'
    have hr' : Rel E (.rsl false sz n el (.tok t)) (.slice (some ⟨b, 0, none⟩) n k) := .rsl sz n el _ b 0 k u hn ⟨hG, rfl, hkc⟩ hkc hl h1 hS hk'
    by_cases hcap : n + m ≤ k
    · have := append_stays hc (ht q (by simp [ho, Op.operands, Call.operands, hc.args])) hg ho hr' hv hG hH hq hm hcap
      rw [hset] at this
      exact this
    · obtain ⟨b', c', arr, Ty, h1', h2', h3', h4', h5', h6', h7', h8'⟩ := hg.obj hH
      have := append_moves (W := (· ∈ [t])) hc (ht q (by simp [ho, Op.operands, Call.operands, hc.args])) hg ho (hv ▸ hr') hv hq (by omega) hbig hlen (Nat.le_refl H.length) (Nat.le_of_lt htl) (fun _ => by simp) (fun j hj => h8' j (by omega))
      rw [hset] at this
      exact this

theorem opA_append_new {c : Call} {p q : Operand} {sz bytes n m : Nat} {nl : Bool} {el el2 : Nat → List AV} {own : Own} {sz' : Nat} (hc : AppT P c p q sz bytes) (ho : o.op = .call c) (hp : opdA T p = .rsl nl sz' n el own) (hq : srcA sz (opdA T q) = some (m, el2))
    (hown : own = .tight ∨ nl = true) (hsz : n = 0 ∨ sz' = sz) (hm : 0 < m) (hbig : (n + m) * bytes ≤ 2 ^ 46) (hlen : n + m < 2 ^ 62) : OpA P o T H (.rsl false sz (n + m) (catEl n el el2) (.tok H.length)) (H ++ [.tail (n + m) sz]) [] := by
  refine opA_run fun E w0 w ρ hg ht => ?_
  have hr := ht p (by simp [ho, Op.operands, Call.operands, hc.args])
  rw [hp] at hr
  have hset : setL H H.length (.tail (n + m) sz) = H ++ [.tail (n + m) sz] := by unfold setL; rw [if_neg (Nat.lt_irrefl _)]
  generalize hv : ρ p = v at hr
  have key : ∃ A k own', v = .slice A n k ∧ k < n + m ∧ Rel E (.rsl nl sz n el own') v := by
    cases hr with
    | rnil _ _ _ h => exact ⟨_, _, own, rfl, by omega, .rnil _ _ _ h⟩
    | rodd _ _ _ a h => exact ⟨_, _, own, rfl, by omega, .rodd _ _ _ a h⟩
    | rsl _ _ _ _ b off k u hn ho' hkc hl h1 hS hk' =>
      rcases hown with rfl | h
      · have : k = n := ho'
        subst this
        rcases hsz with rfl | rfl
        · exact ⟨_, _, .tight, rfl, by omega, .rsl sz 0 el _ b off 0 u hn rfl (Nat.le_refl _) (fun i hi => by omega) (fun i hi => by omega) (fun i hi => by omega) (fun i hi => by omega)⟩
        · exact ⟨_, _, .tight, rfl, by omega, .rsl sz' _ el _ b off _ u hn rfl hkc hl h1 hS hk'⟩
      · cases h
  obtain ⟨A, k, own', rfl, hk, hr'⟩ := key
  have := append_moves (W := (· ∈ [])) hc (ht q (by simp [ho, Op.operands, Call.operands, hc.args])) hg ho (hv ▸ hr') hv hq hk hbig hlen (Nat.le_refl H.length) (Nat.le_refl _) (fun h => absurd h (Nat.lt_irrefl _)) (fun j _ => (hg.fresh (Nat.le_refl _)).2 j)
  rw [hset] at this
  exact this

theorem opS_append_none {c : Call} {p q : Operand} {sz bytes n : Nat} {nl : Bool} {el el2 : Nat → List AV} {own : Own} {sz' : Nat} (hc : AppT P c p q sz bytes) (ho : o.op = .call c) (hp : opdA T p = .rsl nl sz' n el own) (hq : srcA sz (opdA T q) = some (0, el2)) :
    OpS P o T H (.rsl nl sz' n el own) := by
  refine opS_intro fun E w0 w ρ hg ht => ?_
  have hr := ht p (by simp [ho, Op.operands, Call.operands, hc.args])
  rw [hp] at hr
  generalize hv : ρ p = v at hr
  refine ⟨v, ?_, hr⟩
  obtain ⟨A, k, rfl, hk, _⟩ := rel_slice_form hr
  obtain ⟨hcal, hargs, ty, t2, elem, i, z, d, hat, hu, hs, hi, hib, hz, hzs, hu2, hd⟩ := hc
  have hd' : ∀ (w : World), (underlying t2).run P w = .ok d w := pureEval_run hu2
  obtain ⟨hvlen0, vs, hvl, hvr, hv1, hv2⟩ := src_run (P := P) hg (ht q (by simp [ho, Op.operands, Call.operands, hargs])) hq
  have hvs : vs = [] := List.length_eq_zero_iff.1 (by rw [hvl]; simp)
  subst hvs
  have hrun : (Builtin.append_ c.argTypes o.type #[ρ p, ρ q]).run P w = .ok (.slice A n k) w := by
    rw [hat, hv]
    unfold Builtin.append_
    simp only [List.getElem?_toArray, List.getElem?_cons_zero, List.getElem?_cons_succ, Sem.run_bind, pureEval_run hu, pureEval_run hs, Result.andThen_ok, hd', Sem.run_pure]
    have hz0 : (match d with | .int _ => true | _ => false) = false := by
      cases d <;> first | rfl | exact absurd rfl (hd _)
    simp only [Bool.false_eq_true, if_false, Bool.not_false, if_true, Sem.run_bind, hvlen0, Result.andThen_ok]
    rw [if_pos (by omega)]
    simp only [Sem.run_bind, hvr, Result.andThen_ok]
    cases A with
    | none => simp
    | some ad => simp [storeCells]
  simp only [execOp, ho, resolve, hcal, hargs, invoke, builtin, pure_bind]
  rw [Sem.run_bind]
  have e : (#[p, q] : Array Operand).map ρ = #[ρ p, ρ q] := by simp
  rw [e, hrun]
  rfl

/-! ### Strings as bytes, bytes as strings -/
theorem opA_strBytes {src dst elem : TypeId} {p : Operand} {s : ByteArray} (ho : o.op = .convert src dst p) (hu1 : pureEval P (underlying src) = some .string) (hu2 : pureEval P (underlying dst) = some (.slice elem)) (hu3 : pureEval P (underlying elem) = some (.int .u8))
    (hp : opdA T p = .sc (.string s)) (hs : s.size < 2 ^ 62) : OpA P o T H (.rsl false 1 s.size (strEl s) .non) H [] := by
  refine opA_run fun E w0 w ρ hg ht => ?_
  have hr := ht p (by simp [ho, Op.operands])
  rw [hp] at hr
  generalize hv : ρ p = v at hr
  cases hr with
  | sc v hpl =>
    obtain ⟨c, hc1, hc2, hdraw⟩ := run_appendCap (P := P) s.size 0 elem (fun cap => do
      let elems : Array Value := s.data.map fun b => .int .u8 b.toNat
      let a ← newRow elem (elems ++ Array.replicate (cap - s.size) (.int .u8 0))
      markStringish a
      pure (Value.slice (some a) s.size cap)) w (by omega)
    let arr : Array Value := (s.data.map fun b => .int .u8 b.toNat) ++ Array.replicate (c - s.size) (.int .u8 0)
    have g1 := hg.drew
    have ex1 := drew_ext (E := E) (H := H) (w := w) H.length (· ∈ ([] : List Nat))
    generalize w.drew = wd at *
    let w1 := (wd.alloc (.cells arr elem)).freeze ⟨wd.heap.size, arr.size, none⟩ 1
    have hblk : w1.heap[wd.heap.size]? = some (.cells arr elem (arr.size, arr.size + 1)) := by
      have h0 := heap_alloc_new wd (.cells arr elem)
      show ((wd.alloc (.cells arr elem)).freeze ⟨wd.heap.size, arr.size, none⟩ 1).heap[wd.heap.size]? = _
      unfold World.freeze
      rw [if_neg (by omega)]
      simp only [Array.getElem?_modify, if_true, h0, Option.map_some]
      simp
    have hoth : ∀ b, b ≠ wd.heap.size → w1.heap[b]? = (wd.alloc (.cells arr elem)).heap[b]? := by
      intro b hb
      simp [w1, World.freeze, Array.getElem?_modify, Ne.symm hb]
    have hold : ∀ b, b < wd.heap.size → w1.heap[b]? = wd.heap[b]? := fun b hb => (hoth b (by omega)).trans (Below.heap_alloc _ _ _ hb)
    have hsize : w1.heap.size = wd.heap.size + 1 := by
      have := alloc_size wd (.cells arr elem)
      simp [w1, World.freeze]
    have g2 : Good E H w0 w1 := by
      refine ⟨?_, ?_, ?_, g1.sep, g1.fresh, fun h => by have := g1.φlt h; omega⟩
      · refine g1.below.trans ⟨rfl, rfl, rfl, by omega, fun k hk => hold k (Nat.lt_of_lt_of_le hk g1.below.size)⟩
      · intro b o u h
        rw [cell_same (hold b (g1.Slt h))]
        exact g1.snap h
      · intro l o h
        exact (g1.obj h).step h (.refl E) (fun _ h => h) (fun _ => rfl) (fun _ _ _ _ h => h) (fun b hb => hold b (g1.ownlt hb))
    have hcell : ∀ o u, arr[o]? = some u → w1.cell? ⟨wd.heap.size, o, none⟩ = some u := by
      intro o u h
      unfold World.cell?
      rw [hblk]
      simpa using h
    have g3 := g2.stay (b := wd.heap.size) (f := (arr[·]?)) (fun l hl => absurd (g1.ownlt hl) (Nat.lt_irrefl _)) hcell
    have e2 : Ext H.length (· ∈ ([] : List Nat)) E H wd (E.withS wd.heap.size (arr[·]?)) H w1 := ⟨withS_le _ _ _, by omega, Nat.le_refl _, fun _ _ => rfl, fun _ _ hl => hold _ (g1.ownlt hl), fun _ => rfl, fun {x} hb h => ⟨hold _ hb, h, fun o => (by have hx' : x ≠ wd.heap.size := (by omega); simp [Env.withS, hx'])⟩⟩
    refine ⟨E.withS wd.heap.size (arr[·]?), .slice (some ⟨wd.heap.size, 0, none⟩) s.size c, w1, ?_, ex1.trans e2, g3, ?_⟩
    · simp only [execOp, ho, hv, convert, Sem.run_bind, pureEval_run hu1, pureEval_run hu2, pureEval_run hu3, Result.andThen_ok, Conv.stringToBytes]
      simp only [Sem.run_bind] at hdraw
      rw [hdraw]
      simp only [newRow, newObj, Sem.run_bind, Sem.run, Sem.run_pure, Result.andThen_ok, markStringish, shape, freeze]
      have h0 := heap_alloc_new wd (.cells arr elem)
      have hsh : World.shape? { wd with heap := wd.heap.push (.cells arr elem) } wd.heap.size = some (elem, arr.size) := by
        unfold World.shape?
        have : ({ wd with heap := wd.heap.push (.cells arr elem) } : World).heap[wd.heap.size]? = some (.cells arr elem) := h0
        rw [this]
      simp only [arr] at hsh
      simp only [hsh, Sem.run, Result.andThen_ok]
      rfl
    · have hS : ∀ o, (E.withS wd.heap.size (arr[·]?)).S wd.heap.size o = arr[o]? := fun o => by simp [Env.withS, S_new_none g1]
      refine .rsl 1 s.size (strEl s) .non _ 0 c (fun i j => .int .u8 ((s.data.toList.getD i 0).toNat : Int)) hc2 hc1 hc1 (fun i hi => rfl) (fun i hi x hx => by simp [strEl] at hx; subst hx; rfl) (fun i hi j x hj => ?_) (fun i hi j x hj => ?_)
      · cases j with
        | succ j => simp [strEl] at hj
        | zero =>
          rw [hS]
          have hi' : i < s.data.size := hi
          have hi2 : i < s.data.toList.length := by simpa using hi'
          simp only [arr, Nat.zero_add, Nat.mul_one, Nat.add_zero]
          rw [Array.getElem?_append_left (by simpa using hi'), Array.getElem?_map]
          have e3 : s.data[i]? = some (s.data.toList.getD i 0) := by
            rw [List.getD_eq_getElem?_getD, List.getElem?_eq_getElem hi2]
            simp [hi']
          rw [e3]
          rfl
      · cases j with
        | succ j => simp [strEl] at hj
        | zero =>
          simp [strEl] at hj
          subst hj
          have e2 : s.data[i]?.getD 0 = s.data.toList.getD i 0 := by simp
          rw [e2]
          exact Rel.sc (.int .u8 _) rfl
end
end Go.Proofs.YtiipaliigpkfhaaGreat.Ab

/- Part 11: calls as operations. -/
set_option linter.unusedVariables false
set_option linter.unusedSimpArgs false
namespace Go.Proofs.YtiipaliigpkfhaaGreat.Ab
open Go Go.RowKit

section
variable {P : Program} {o : Oper} {T : List AV} {H : AHeap}

/-- A function that has a body. -/
def HasBody (P : Program) (g : FuncId) : Prop := ∃ fn c, P.funcs[g]? = some fn ∧ (fn.name == "runtime.NumGoroutine") = false ∧ fn.body = some c

theorem getD_append_left {xs ys : Array Value} {i : Nat} (h : i < xs.size) : (xs ++ ys).getD i undef = xs.getD i undef := by
  simp [Array.getD_eq_getD_getElem?, Array.getElem?_append, h]
theorem getD_append_right {xs ys : Array Value} {i : Nat} (h : xs.size ≤ i) : (xs ++ ys).getD i undef = ys.getD (i - xs.size) undef := by
  simp [Array.getD_eq_getD_getElem?, Array.getElem?_append, Nat.not_lt.2 h]

theorem relL_append {E : Env} {xs ys : List AV} {us vs : Array Value} (h : RelL E xs us) (k : RelL E ys vs) : RelL E (xs ++ ys) (us ++ vs) := by
  refine ⟨by simp [h.1, k.1], fun i x hx => ?_⟩
  rcases Nat.lt_or_ge i xs.length with hi | hi
  · rw [List.getElem?_append_left hi] at hx
    rw [getD_append_left (by rw [h.1]; exact hi)]
    exact h.2 i x hx
  · rw [List.getElem?_append_right hi] at hx
    rw [getD_append_right (by rw [h.1]; exact hi), h.1]
    exact k.2 _ x hx

theorem opA_call {c : Call} {f : Operand} {g : FuncId} {first caps : List AV} {x : AV} {H' : AHeap} {W : Nat → Prop} {Wr : List Nat} (ho : o.op = .call c) (hc : c.callee = .value f) (hf : opdA T f = .fn (.func g) first caps) (hb : HasBody P g)
    (h : CallsA P g (first ++ c.args.toList.map (opdA T) ++ caps) (.ret x) H H' W) (hW : ∀ l, l < H.length → W l → l ∈ Wr) : OpA P o T H x H' Wr := by
  intro E w0 w ρ hg ht
  have hr := ht f (by simp [ho, Op.operands, Call.operands, hc])
  rw [hf] at hr
  generalize hv : ρ f = v at hr
  cases hr with
  | fn _ _ _ us vs h1 h2 k1 k2 =>
    obtain ⟨fn, cd, hfn, hname, hbody⟩ := hb
    have hargs : RelL E (first ++ c.args.toList.map (opdA T) ++ caps) (us ++ c.args.map ρ ++ vs) :=
      relL_append (relL_append ⟨h1, k1⟩ (rel_list c.args (fun y hy => ht y (by simp [ho, Op.operands, Call.operands, hy])))) ⟨h2, k2⟩
    have hrun : (execOp ρ o).run P w = .ok (.enter g (us ++ c.args.map ρ ++ vs)) w := by
      simp only [execOp, ho, resolve, hc, hv, Deferred.ofValue, pure_bind, invoke]
      have h1 : fn.name ≠ "runtime.NumGoroutine" := by simpa using hname
      simp [callFunc, hfn, h1, hbody]
    unfold OpR
    rw [hrun]
    refine (h E w0 w _ hg hargs).mono ?_
    rintro e w' ⟨E', re, ex, g'⟩
    cases re with
    | ret x v hv' => exact ⟨E', ex.weaken (Nat.le_refl _) hW, g', hv'⟩

/-! ### Two operands, told by what they stand for -/
theorem opS_bin {op : BinOp} {t t2 : TypeId} {p q : Operand} {r : Value} (ho : o.op = .binOp op t p q t2) (hr : plain r = true)
    (h : ∀ (E : Env) (v u : Value), Rel E (opdA T p) v → Rel E (opdA T q) u → pureEval P (do eqGuard op t p q v u; binOp op t v u) = some r) : OpS P o T H (.sc r) := by
  refine opS_intro fun E w0 w ρ hg ht => ⟨r, ?_, .sc r hr⟩
  have := pureEval_run (h E _ _ (ht p (by simp [ho, Op.operands, Call.operands])) (ht q (by simp [ho, Op.operands, Call.operands]))) w
  simp only [execOp, ho]
  rw [Sem.run_bind, this]
  rfl

theorem pureEval_bind {α β : Type} {s : Sem α} {f : α → Sem β} {x : α} (h : pureEval P s = some x) : pureEval P (s >>= f) = pureEval P (f x) := by
  show pureEval P (s.bind f) = _
  induction s with
  | pure a => simp only [pureEval, Option.some.injEq] at h; subst h; rfl
  | program k ih => simp only [pureEval] at h; simp only [Sem.bind, pureEval]; exact ih P h
  | mark m k ih => simp only [pureEval] at h; simp only [Sem.bind, pureEval]; exact ih h
  | _ => simp [pureEval] at h

/-- A pointer, a slice, a function, a map, an interface value against nil: is it nil? -/
def nilA : AV → AV → Option Bool
  | .ptr _ _, .sc (.pointer none) => some false
  | .rptr _, .sc (.pointer none) => some false
  | .sc (.pointer none), .sc (.pointer none) => some true
  | .rsl nl _ _ _ _, .rsl true _ 0 _ _ => some nl
  | .fn _ _ _, .sc .nilFunc => some false
  | .mapr _, .sc (.map none) => some false
  | .ifc _ _, .sc .nilIface => some false
  | _, _ => none

/-- Which types these are of. -/
def nilTy : AV → TypeDesc → Bool
  | .ptr _ _, .pointer _ => true
  | .rptr _, .pointer _ => true
  | .sc (.pointer none), .pointer _ => true
  | .rsl _ _ _ _ _, .slice _ => true
  | .fn _ _ _, .func _ _ _ => true
  | .mapr _, .map _ _ => true
  | .ifc _ _, .interface _ => true
  | _, _ => false

theorem rsl_nil {E : Env} {nl : Bool} {sz n : Nat} {el : Nat → List AV} {own : Own} {v : Value} (h : Rel E (.rsl nl sz n el own) v) : ∃ A k, v = .slice A n k ∧ A.isNone = nl := by
  cases h <;> exact ⟨_, _, rfl, rfl⟩

theorem opS_nil {op : BinOp} {t t2 : TypeId} {p q : Operand} {d : TypeDesc} {b : Bool} (ho : o.op = .binOp op t p q t2) (hop : op = .eql ∨ op = .neq) (hu : pureEval P (underlying t) = some d) (hd : nilTy (opdA T p) d = true)
    (hb : nilA (opdA T p) (opdA T q) = some b) : OpS P o T H (.sc (.bool (if op = .neq then !b else b))) := by
  refine opS_bin ho rfl fun E v u hv hu' => ?_
  generalize opdA T p = x at *
  generalize opdA T q = y at *
  have key : ∀ (v u : Value), (∀ c, v ≠ .agg c) → v ≠ .nilIface → (∀ k n, v ≠ .int k n) → (∀ k n, v ≠ .float k n) → (∀ k n m, v ≠ .complex k n m) → (∀ s, v ≠ .string s) → pureEval P (Op.equal t v u) = some b →
      pureEval P (do eqGuard op t p q v u; binOp op t v u) = some (.bool (if op = .neq then !b else b)) := by
    intro v u h1 h2 h3 h4 h5 h6 h
    have hg : pureEval P (eqGuard op t p q v u) = some () := by
      unfold eqGuard
      rcases hop with rfl | rfl <;> cases v <;> first | exact absurd rfl (h1 _) | exact absurd rfl h2 | rfl
    rw [pureEval_bind hg]
    have e1 : pureEval P (do pure (Value.bool (← Op.equal t v u))) = some (.bool b) := by rw [pureEval_bind h]; rfl
    have e2 : pureEval P (do pure (Value.bool (!(← Op.equal t v u)))) = some (.bool (!b)) := by rw [pureEval_bind h]; rfl
    rcases hop with rfl | rfl
    · unfold binOp
      cases v <;> first | exact absurd rfl (h3 _ _) | exact absurd rfl (h4 _ _) | exact absurd rfl (h5 _ _ _) | exact absurd rfl (h6 _) | exact e1
    · unfold binOp
      cases v <;> first | exact absurd rfl (h3 _ _) | exact absurd rfl (h4 _ _) | exact absurd rfl (h5 _ _ _) | exact absurd rfl (h6 _) | exact e2
  have fin : ∀ (v u : Value), pureEval P (Op.equal t v u) = pureEval P (Op.equal t v u) := fun _ _ => rfl
  clear fin
  unfold nilA at hb
  split at hb <;> simp only [Option.some.injEq, reduceCtorEq] at hb
  · subst hb
    cases hv with
    | ptr l o' bb hb' =>
      cases hu'
      refine key _ _ (by simp) (by simp) (by simp) (by simp) (by simp) (by simp) ?_
      cases d <;> simp [nilTy] at hd
      unfold Op.equal Op.maxDepth Op.equalIn
      rw [pureEval_bind hu]
      rfl
  · subst hb
    cases hv with
    | rptr cs bb off uu hs hk =>
      cases hu'
      refine key _ _ (by simp) (by simp) (by simp) (by simp) (by simp) (by simp) ?_
      cases d <;> simp [nilTy] at hd
      unfold Op.equal Op.maxDepth Op.equalIn
      rw [pureEval_bind hu]
      rfl
  · subst hb
    cases hv
    cases hu'
    refine key _ _ (by simp) (by simp) (by simp) (by simp) (by simp) (by simp) ?_
    cases d <;> simp [nilTy] at hd
    unfold Op.equal Op.maxDepth Op.equalIn
    rw [pureEval_bind hu]
    rfl
  · subst hb
    obtain ⟨A, k, rfl, hA⟩ := rsl_nil hv
    cases hu' with
    | rnil =>
      refine key _ _ (by simp) (by simp) (by simp) (by simp) (by simp) (by simp) ?_
      cases d <;> simp [nilTy] at hd
      unfold Op.equal Op.maxDepth Op.equalIn
      rw [pureEval_bind hu]
      subst hA
      cases A <;> rfl
  · subst hb
    cases hv with
    | fn =>
      cases hu'
      refine key _ _ (by simp) (by simp) (by simp) (by simp) (by simp) (by simp) ?_
      cases d <;> simp [nilTy] at hd
      unfold Op.equal Op.maxDepth Op.equalIn
      rw [pureEval_bind hu]
      rfl
  · subst hb
    cases hv with
    | mapr =>
      cases hu'
      refine key _ _ (by simp) (by simp) (by simp) (by simp) (by simp) (by simp) ?_
      cases d <;> simp [nilTy] at hd
      unfold Op.equal Op.maxDepth Op.equalIn
      rw [pureEval_bind hu]
      rfl
  · subst hb
    cases hv with
    | ifc =>
      cases hu'
      refine key _ _ (by simp) (by simp) (by simp) (by simp) (by simp) (by simp) ?_
      cases d <;> simp [nilTy] at hd
      unfold Op.equal Op.maxDepth Op.equalIn
      rw [pureEval_bind hu]
      rfl
end
end Go.Proofs.YtiipaliigpkfhaaGreat.Ab

/- Part 12: what an operation that changes nothing answers, as a function. -/
set_option linter.unusedVariables false
set_option linter.unusedSimpArgs false
namespace Go.Proofs.YtiipaliigpkfhaaGreat.Ab
open Go Go.RowKit

section
variable {P : Program} {o : Oper} {T : List AV} {H : AHeap}

/-- A scalar answer. -/
def scOf : Option Value → Option AV
  | some v => if plain v then some (.sc v) else none
  | none => none

theorem scOf_some {r : Option Value} {x : AV} (h : scOf r = some x) : ∃ v, r = some v ∧ plain v = true ∧ x = .sc v := by
  cases r with
  | none => cases h
  | some v =>
    simp only [scOf] at h
    split at h
    · rename_i hp; exact ⟨v, rfl, hp, (Option.some.inj h).symm⟩
    · cases h

theorem rel_scal {E : Env} {x : AV} {v u : Value} (h : scal x = some u) (hr : Rel E x v) : v = u := by
  rw [scal_eq h] at hr
  cases hr
  rfl

/-- The model's own answers, behind names. -/
def binE (P : Program) (op : BinOp) (t : TypeId) (p q : Operand) (v u : Value) : Option Value := pureEval P (do eqGuard op t p q v u; binOp op t v u)
def unE (P : Program) (op : UnOp) (v : Value) : Option Value := pureEval P (Op.unary op v)
def cvE (P : Program) (s d : TypeId) (v : Value) : Option Value := pureEval P (convert s d v)
def ixE (P : Program) (t : TypeId) (v u : Value) : Option Value := pureEval P (Instr.index t v u)

def binS (P : Program) (op : BinOp) (t : TypeId) (p q : Operand) (x y : AV) : Option AV :=
  match x, y with
  | .sc v, .sc u => scOf (binE P op t p q v u)
  | x, y =>
    match op with
    | .eql => match pureEval P (underlying t), nilA x y with
      | some d, some b => if nilTy x d then some (.sc (.bool b)) else none
      | _, _ => none
    | .neq => match pureEval P (underlying t), nilA x y with
      | some d, some b => if nilTy x d then some (.sc (.bool (!b))) else none
      | _, _ => none
    | _ => none

theorem binS_sound {op : BinOp} {t t2 : TypeId} {p q : Operand} {x : AV} (ho : o.op = .binOp op t p q t2) (h : binS P op t p q (opdA T p) (opdA T q) = some x) : OpS P o T H x := by
  unfold binS at h
  split at h
  · rename_i v u hv hu
    obtain ⟨r, hr, hp, rfl⟩ := scOf_some h
    refine opS_bin ho hp fun E v' u' h1 h2 => ?_
    rw [hv] at h1
    rw [hu] at h2
    cases h1
    cases h2
    exact hr
  · split at h
    · split at h
      · rename_i d b hd hb
        split at h
        · rename_i hn
          simp only [Option.some.injEq] at h
          subst h
          have := opS_nil (H := H) ho (.inl rfl) hd hn hb
          simpa using this
        · cases h
      · cases h
    · split at h
      · rename_i d b hd hb
        split at h
        · rename_i hn
          simp only [Option.some.injEq] at h
          subst h
          have := opS_nil (H := H) ho (.inr rfl) hd hn hb
          simpa using this
        · cases h
      · cases h
    · cases h

/-- One scalar operand. -/
theorem opS_one {p : Operand} {x : AV} {f : Value → Sem Value} (hrun : ∀ ρ, execOp ρ o = (do pure (.value (← f (ρ p))))) (hmem : p ∈ o.op.operands) {v : Value} (hv : opdA T p = .sc v) (h : scOf (pureEval P (f v)) = some x) : OpS P o T H x := by
  obtain ⟨r, hr, hp, rfl⟩ := scOf_some h
  refine opS_intro fun E w0 w ρ hg ht => ⟨r, ?_, .sc r hp⟩
  have hx := ht p hmem
  rw [hv] at hx
  generalize hq : ρ p = u at hx
  cases hx
  rw [hrun, hq, Sem.run_bind, pureEval_run hr]
  rfl

theorem opS_two {p q : Operand} {x : AV} {f : Value → Value → Sem Value} (hrun : ∀ ρ, execOp ρ o = (do pure (.value (← f (ρ p) (ρ q))))) (hmem : p ∈ o.op.operands) (hmem2 : q ∈ o.op.operands) {v u : Value} (hv : opdA T p = .sc v) (hu : opdA T q = .sc u)
    (h : scOf (pureEval P (f v u)) = some x) : OpS P o T H x := by
  obtain ⟨r, hr, hp, rfl⟩ := scOf_some h
  refine opS_intro fun E w0 w ρ hg ht => ⟨r, ?_, .sc r hp⟩
  have hx := ht p hmem
  rw [hv] at hx
  have hy := ht q hmem2
  rw [hu] at hy
  generalize hq : ρ p = a at hx
  generalize hq2 : ρ q = b at hy
  cases hx
  cases hy
  rw [hrun, hq, hq2, Sem.run_bind, pureEval_run hr]
  rfl

/-- Builtins over scalars: len of a string, max, min. -/
def builtinS (P : Program) (b : Builtin) (argTypes : Array TypeId) (ty : TypeId) (vs : Array Value) : Option Value :=
  match pureEval P (builtin b argTypes ty (vs.map fun _ => false) vs) with
  | some (.value v) => some v
  | _ => none

def scals (T : List AV) : List Operand → Option (List Value)
  | [] => some []
  | x :: r => match scal (opdA T x), scals T r with
    | some v, some vs => some (v :: vs)
    | _, _ => none

theorem scals_eq {E : Env} {ρ : Operand → Value} : ∀ {xs : List Operand} {vs : List Value}, (∀ x ∈ xs, Rel E (opdA T x) (ρ x)) → scals T xs = some vs → xs.map ρ = vs
  | [], vs, _, h => by simp [scals] at h; rw [h]; rfl
  | x :: r, vs, ht, h => by
    simp only [scals] at h
    split at h
    · rename_i v us hv hus
      simp only [Option.some.injEq] at h
      subst h
      rw [List.map_cons, rel_scal hv (ht x List.mem_cons_self), scals_eq (fun y hy => ht y (List.mem_cons_of_mem _ hy)) hus]
    · cases h

/-- Which builtins look at no more than their operands' values. -/
def quietB : Builtin → Bool
  | .len | .max | .min => true
  | _ => false

theorem builtin_consts (b : Builtin) (hb : quietB b = true) (at_ : Array TypeId) (ty : TypeId) (cs cs' : Array Bool) (vs : Array Value) : builtin b at_ ty cs vs = builtin b at_ ty cs' vs := by
  cases b <;> first | rfl | simp [quietB] at hb

def callS (P : Program) (o : Oper) (c : Call) (T : List AV) : Option AV :=
  match c.callee with
  | .builtin b =>
    if quietB b then
      match scals T c.args.toList with
      | some vs => scOf (builtinS P b c.argTypes o.type vs.toArray)
      | none => match b, c.args.toList, c.argTypes[0]? with
        | .len, [p], some t => match opdA T p, pureEval P (underlying t) with
          | .rsl _ _ n _ _, some (.slice _) => some (.sc (.int .i64 n))
          | .msl _ _ n, some (.slice _) => some (.sc (.int .i64 n))
          | .asl _ _ n, some (.slice _) => some (.sc (.int .i64 n))
          | _, _ => none
        | _, _, _ => none
    else none
  | _ => none

theorem callS_sound {c : Call} {x : AV} (ho : o.op = .call c) (h : callS P o c T = some x) : OpS P o T H x := by
  unfold callS at h
  split at h
  · rename_i b hb
    split at h
    · rename_i hq
      split at h
      · rename_i vs hvs
        obtain ⟨r, hr, hp, rfl⟩ := scOf_some h
        refine opS_intro fun E w0 w ρ hg ht => ⟨r, ?_, .sc r hp⟩
        have hargs : c.args.map ρ = vs.toArray := by
          have := scals_eq (fun x hx => ht x (by simp only [ho, Op.operands, Call.operands, hb]; simpa using hx)) hvs
          apply Array.ext'
          simpa using this
        unfold builtinS at hr
        split at hr
        · rename_i v hv
          simp only [Option.some.injEq] at hr
          subst hr
          simp only [execOp, ho, resolve, hb, pure_bind, invoke, hargs]
          rw [builtin_consts b hq _ _ _ (vs.toArray.map fun _ => false)]
          exact pureEval_run hv w
        · cases hr
      · split at h
        · rename_i b' p t hargs hat
          split at h
          · rename_i nl sz n el own e hp hu
            simp only [Option.some.injEq] at h
            subst h
            exact opS_len ho hb (by apply Array.ext'; simpa using hargs) hat ⟨e, hu⟩ hp
          · rename_i l sz n e hp hu
            simp only [Option.some.injEq] at h
            subst h
            exact opS_lenMsl ho hb (by apply Array.ext'; simpa using hargs) hat ⟨e, hu⟩ hp
          · rename_i l sz n e hp hu
            simp only [Option.some.injEq] at h
            subst h
            exact opS_lenAsl ho hb (by apply Array.ext'; simpa using hargs) hat ⟨e, hu⟩ hp
          · cases h
        · cases h
    · cases h
  · cases h

/-- An array's element, of a value. -/
def indexS (P : Program) (t : TypeId) (x y : AV) : Option AV :=
  match x, y with
  | .sc v, .sc u => scOf (ixE P t v u)
  | _, _ => none

def stepS (P : Program) (o : Oper) (T : List AV) (H : AHeap) : Option AV :=
  match o.op with
  | .move x => some (opdA T x)
  | .assign x => some (opdA T x)
  | .pick c a b => match opdA T c with
    | .sc (.bool t) => some (if t then opdA T a else opdA T b)
    | _ => none
  | .load t p => (cellsOfA H (opdA T p)).bind (loadA P t)
  | .fieldAddr s p f => (fieldOff P s f).bind fun n => moveA n (opdA T p)
  | .nilCheck p => match opdA T p with
    | .ptr l o => some (.ptr l o)
    | .rptr cs => some (.rptr cs)
    | .fn (.func f) a b => some (.fn (.func f) a b)
    | _ => none
  | .extract t i => match opdA T t with
    | .tup xs => xs[i]?
    | _ => none
  | .makeFunc fn first caps => some (.fn fn (first.toList.map (opdA T)) (caps.toList.map (opdA T)))
  | .makeInterface t p => match pureEval P (underlying t) with
    | some (.interface _) => none
    | some _ => some (.ifc t (opdA T p))
    | none => none
  | .indexAddr t p q => match pureEval P (underlying t), opdA T p, opdA T q with
    | some (.slice e), .rsl _ sz n el _, .sc (.int _ i) => if pureEval P (Go.sizeOf e) = some sz ∧ 0 ≤ i ∧ i < n then some (.rptr (el i.toNat)) else none
    | some (.slice e), .msl l sz n, .sc (.int _ i) => if pureEval P (Go.sizeOf e) = some sz ∧ 0 ≤ i ∧ i < n then some (.ptr l (i.toNat * sz)) else none
    | some (.slice e), .asl l sz n, .sc (.int _ i) => if pureEval P (Go.sizeOf e) = some sz ∧ 0 ≤ i ∧ i < n then some (.ptr l (i.toNat * sz)) else none
    | _, _, _ => none
  | .slice t p lo hi mx => match pureEval P (underlying t), opdA T p with
    | some (.slice e), .rsl nl sz n el _ =>
      match optInt T lo, optInt T hi, optInt T mx with
      | some l, some h, some none =>
        if pureEval P (Go.sizeOf e) = some sz ∧ 0 ≤ l.getD 0 ∧ l.getD 0 ≤ h.getD n ∧ h.getD n ≤ n then some (.rsl nl sz ((h.getD n).toNat - (l.getD 0).toNat) (fun i => el (i + (l.getD 0).toNat)) .non) else none
      | some l, some (some h), some (some m) =>
        if pureEval P (Go.sizeOf e) = some sz ∧ 0 ≤ l.getD 0 ∧ l.getD 0 ≤ h ∧ h = m ∧ m ≤ n then some (.rsl nl sz (h.toNat - (l.getD 0).toNat) (fun i => el (i + (l.getD 0).toNat)) .tight) else none
      | _, _, _ => none
    | some .string, .sc (.string s) =>
      match optInt T lo, optInt T hi, optInt T mx with
      | some l, some h, some none => if 0 ≤ l.getD 0 ∧ l.getD 0 ≤ h.getD s.size ∧ h.getD s.size ≤ s.size then some (.sc (.string (s.extract (l.getD 0).toNat (h.getD s.size).toNat))) else none
      | _, _, _ => none
    | _, _ => none
  | .build t ps => match pureEval P (zeroValue t), placesOf P t with
    | some z, some pl => match constA z with
      | .agg zs => (fillA (fun i => pl[i]?) zs (ps.toList.map fun (i, x) => (i, opdA T x))).map .agg
      | _ => none
    | _, _ => none
  | .binOp op t p q _ => binS P op t p q (opdA T p) (opdA T q)
  | .unOp op _ p => match opdA T p with
    | .sc v => scOf (unE P op v)
    | _ => none
  | .convert src dst p => match opdA T p with
    | .sc v => scOf (cvE P src dst v)
    | _ => none
  | .index t p q => indexS P t (opdA T p) (opdA T q)
  | .call c => callS P o c T
  | _ => none

theorem sliceBounds_str {E : Env} {ρ : Operand → Value} {w : World} {lo hi : Option Operand} (htl : ∀ x, lo = some x → Rel E (opdA T x) (ρ x)) (hth : ∀ x, hi = some x → Rel E (opdA T x) (ρ x)) {l h : Option Int} (hl : optInt T lo = some l) (hh : optInt T hi = some h) {n : Nat}
    (h1 : 0 ≤ l.getD 0) (h2 : l.getD 0 ≤ h.getD n) (h3 : h.getD n ≤ n) : (Instr.sliceBounds false n n (lo.map ρ) (hi.map ρ) none).run P w = .ok ((l.getD 0).toNat, (h.getD n).toNat, n) w := by
  unfold Instr.sliceBounds
  rcases optInt_eval hth hh with ⟨rfl, rfl⟩ | ⟨x, k, i, rfl, rfl, hx⟩ <;> rcases optInt_eval htl hl with ⟨rfl, rfl⟩ | ⟨y, k', i', rfl, rfl, hy⟩
  · simp
  · simp only [Option.map_some, Option.map_none, hy, Option.getD_some, Option.getD_none] at *
    simp only [Sem.run_bind, Sem.run_pure, Result.andThen_ok, pure_bind]
    rw [sliceBound_ok (by omega) (by omega)]
    simp
  · simp only [Option.map_some, Option.map_none, hx, Option.getD_some, Option.getD_none] at *
    simp only [Sem.run_bind, Sem.run_pure, Result.andThen_ok, pure_bind]
    rw [sliceBound_ok (by omega) (by omega)]
    simp
  · simp only [Option.map_some, Option.map_none, hx, hy, Option.getD_some, Option.getD_none] at *
    simp only [Sem.run_bind, Sem.run_pure, Result.andThen_ok, pure_bind]
    rw [sliceBound_ok (by omega) (by omega)]
    simp only [Result.andThen_ok, Sem.run_bind]
    rw [sliceBound_ok (by omega) (by omega)]
    simp

theorem opS_sliceStr {t : TypeId} {p : Operand} {lo hi : Option Operand} {s : ByteArray} {l h : Option Int} (ho : o.op = .slice t p lo hi none)
    (hu : pureEval P (underlying t) = some .string) (hp : opdA T p = .sc (.string s)) (hl : optInt T lo = some l) (hh : optInt T hi = some h)
    (h1 : 0 ≤ l.getD 0) (h2 : l.getD 0 ≤ h.getD s.size) (h3 : h.getD s.size ≤ s.size) : OpS P o T H (.sc (.string (s.extract (l.getD 0).toNat (h.getD s.size).toNat))) := by
  refine opS_intro fun E w0 w ρ hg ht => ?_
  have hr := ht p (by simp [ho, Op.operands])
  rw [hp] at hr
  generalize hv : ρ p = v at hr
  cases hr
  refine ⟨_, ?_, .sc _ rfl⟩
  simp only [execOp, ho, Instr.sliceAt, hv, Sem.run_bind, pureEval_run hu, Result.andThen_ok, Instr.slice, Option.map_none, Option.isSome_none, Bool.false_eq_true, if_false]
  rw [sliceBounds_str (fun x e => ht x (by simp [ho, Op.operands, e])) (fun x e => ht x (by simp [ho, Op.operands, e])) hl hh h1 h2 h3]
  simp only [Result.andThen_ok, Sem.run_pure, Sem.run_bind]

theorem optInt_none {q : Option Operand} (h : optInt T q = some none) : q = none := by
  cases q with
  | none => rfl
  | some x => simp only [optInt] at h; split at h <;> simp at h

theorem optInt_some {q : Option Operand} {i : Int} (h : optInt T q = some (some i)) : ∃ x, q = some x := by
  cases q with
  | none => simp [optInt] at h
  | some x => exact ⟨x, rfl⟩

theorem stepS_sound {x : AV} (h : stepS P o T H = some x) : OpS P o T H x := by
  unfold stepS at h
  split at h
  · rename_i y ho; cases h; exact opS_move (.inl ho)
  · rename_i y ho; cases h; exact opS_move (.inr ho)
  · rename_i c a b ho
    split at h
    · rename_i t hc; cases h; exact opS_pick ho hc
    · cases h
  · rename_i t p ho
    cases hc : cellsOfA H (opdA T p) with
    | none => rw [hc] at h; cases h
    | some cs => rw [hc] at h; exact opS_load ho hc h
  · rename_i s p f ho
    cases hn : fieldOff P s f with
    | none => rw [hn] at h; cases h
    | some n => rw [hn] at h; exact opS_fieldAddr ho hn h
  · rename_i p ho
    split at h
    · rename_i l o' hp; cases h; exact opS_nilCheck ho hp (.inl ⟨_, _, rfl⟩)
    · rename_i cs hp; cases h; exact opS_nilCheck ho hp (.inr (.inl ⟨_, rfl⟩))
    · rename_i f a b hp; cases h; exact opS_nilCheck ho hp (.inr (.inr ⟨_, _, _, rfl⟩))
    · cases h
  · rename_i t i ho
    split at h
    · rename_i xs hx; exact opS_extract ho hx h
    · cases h
  · rename_i fn first caps ho; cases h; exact opS_makeFunc ho
  · rename_i t p ho
    split at h
    · cases h
    · rename_i d hne hd; cases h; exact opS_makeInterface ho ⟨_, hd, fun ms e => hne ms e⟩
    · cases h
  · rename_i t p q ho
    split at h
    · rename_i e nl sz n el own k i hu hp hq
      split at h
      · rename_i hc; cases h; exact opS_indexAddr ho hu hc.1 hp hq hc.2.1 hc.2.2
      · cases h
    · rename_i e l sz n k i hu hp hq
      split at h
      · rename_i hc; cases h; exact opS_indexMsl ho hu hc.1 hp hq hc.2.1 hc.2.2
      · cases h
    · rename_i e l sz n k i hu hp hq
      split at h
      · rename_i hc; cases h; exact opS_indexAsl ho hu hc.1 hp hq hc.2.1 hc.2.2
      · cases h
    · cases h
  · rename_i t p lo hi mx ho
    split at h
    · rename_i e nl sz n el own hu hp
      split at h
      · rename_i l h' hl hh hm
        have := optInt_none hm
        subst this
        split at h
        · rename_i hc; cases h; exact opS_slice ho hu hc.1 hp hl hh hc.2.1 hc.2.2.1 hc.2.2.2
        · cases h
      · rename_i l h' m hl hh hm
        obtain ⟨q1, rfl⟩ := optInt_some hh
        obtain ⟨q2, rfl⟩ := optInt_some hm
        split at h
        · rename_i hc; cases h; exact opS_slice3 ho hu hc.1 hp hl hh hm hc.2.1 hc.2.2.1 hc.2.2.2.1 hc.2.2.2.2
        · cases h
      · cases h
    · rename_i s hu hp
      split at h
      · rename_i l h' hl hh hm
        have := optInt_none hm
        subst this
        split at h
        · rename_i hc; cases h; exact opS_sliceStr ho hu hp hl hh hc.1 hc.2.1 hc.2.2
        · cases h
      · cases h
    · cases h
  · rename_i t ps ho
    split at h
    · rename_i z pl hz hpl
      split at h
      · rename_i zs hzs
        rw [Option.map_eq_some_iff] at h
        obtain ⟨cs, hcs, rfl⟩ := h
        exact opS_build ho hz hzs hpl hcs
      · cases h
    · cases h
  · rename_i op t p q t2 ho; exact binS_sound ho h
  · rename_i op t p ho
    split at h
    · rename_i v hv; exact opS_one (f := Op.unary op) (fun ρ => by simp [execOp, ho]) (by simp [ho, Op.operands]) hv h
    · cases h
  · rename_i s d p ho
    split at h
    · rename_i v hv; exact opS_one (f := convert s d) (fun ρ => by simp [execOp, ho]) (by simp [ho, Op.operands]) hv h
    · cases h
  · rename_i t p q ho
    unfold indexS at h
    split at h
    · rename_i v u hv hu; exact opS_two (f := Instr.index t) (fun ρ => by simp [execOp, ho]) (by simp [ho, Op.operands]) (by simp [ho, Op.operands]) hv hu h
    · cases h
  · rename_i c ho; exact callS_sound ho h
  · cases h
end
end Go.Proofs.YtiipaliigpkfhaaGreat.Ab

/- Part 13: what an operation that writes or makes answers, as a function. -/
set_option linter.unusedVariables false
set_option linter.unusedSimpArgs false
namespace Go.Proofs.YtiipaliigpkfhaaGreat.Ab
open Go Go.RowKit

/-- A row's token is let go. -/
def untok : AV → AV
  | .rsl nl sz n el (.tok _) => .rsl nl sz n el .non
  | x => x

theorem untok_rel {E : Env} {x : AV} {v : Value} (h : Rel E x v) : Rel E (untok x) v := by
  cases h with
  | rnil sz el own h => rcases h with rfl | rfl <;> exact .rnil sz el _ (by simp)
  | rodd sz el own a h => rcases h with rfl | rfl <;> exact .rodd sz el _ a (by simp)
  | rsl sz n el own b off c u hn ho hc hl h1 hS hk =>
    cases own with
    | non => exact .rsl sz n el _ b off c u hn ho hc hl h1 hS hk
    | tight => exact .rsl sz n el _ b off c u hn ho hc hl h1 hS hk
    | tok t => exact .rsl sz n el .non b off c u hn hc hc hl h1 hS hk
  | any v => exact .any v
  | sc v h => exact .sc v h
  | ptr l o b h => exact .ptr l o b h
  | rptr cs b off u h k => exact .rptr cs b off u h k
  | fn f a b us vs h1 h2 k1 k2 => exact .fn f a b us vs h1 h2 k1 k2
  | ifc t x v k => exact .ifc t x v k
  | agg cs us h k => exact .agg cs us h k
  | tup cs us h k => exact .tup cs us h k
  | mapr l b h => exact .mapr l b h
  | stamp l i n h => exact .stamp l i n h
  | msl l sz n b h hn => exact .msl l sz n b h hn
  | asl l sz n b c h hn => exact .asl l sz n b c h hn
  | yfn l b h => exact .yfn l b h

/-- A cell of a row: it bears no label. -/
def lf1 : AV → Bool
  | .sc _ => true
  | .rptr _ => true
  | .rsl _ _ _ _ own => match own with
    | .tok _ => false
    | _ => true
  | _ => false

theorem lf1_LF {x : AV} (h : lf1 x = true) : LF x := by
  cases x with
  | sc v => exact .sc v
  | rptr cs => exact .rptr cs
  | rsl nl sz n el own => exact .rsl nl sz n el own (fun t e => by subst e; simp [lf1] at h)
  | _ => simp [lf1] at h

theorem lf1_one {x : AV} (h : lf1 x = true) : oneC x = true := by
  cases x <;> simp [lf1] at h <;> rfl

section
variable {P : Program} {o : Oper} {T : List AV} {H : AHeap}

theorem opA_buildSlice' {t elem : TypeId} {n sz : Nat} {ps : Array (Nat × Operand)} {z : Value} {zs cs : List AV} (ho : o.op = .buildSlice t n ps) (hu : pureEval P (underlying t) = some (.slice elem)) (hs : pureEval P (Go.sizeOf elem) = some sz)
    (hz : pureEval P (zeroValue elem) = some z) (hzc : (constA z).cells = zs) (hzn : notAny (constA z) = true) (hzl : 0 < zs.length) (hbig : n * sz ≤ 2 ^ 24)
    (hf : fillA (fun i => some (i * sz, sz)) ((List.range (n * sz)).map fun i => zs.getD (i % zs.length) .any) (ps.toList.map fun (i, x) => (i, opdA T x)) = some cs)
    (hcl : cs.length = n * sz) (hlf : ∀ x ∈ cs, lf1 (untok x) = true) (hn : n ≤ maxLen) : OpA P o T H (.rsl false sz n (rowOf sz (cs.map untok)) .tight) H [] := by
  refine opA_run fun E w0 w ρ hg ht => ?_
  have hzr := constA_rel E _ z (Nat.lt_succ_self _)
  have hzra : RA E zs z.cells := hzc ▸ cells_rel hzr hzn
  obtain ⟨hl, hr⟩ := parts_rel ps (fun y hy => ht y.2 (by simp only [ho, Op.operands]; simp only [List.mem_toArray, List.mem_map]; exact ⟨y, by simpa using hy, rfl⟩))
  obtain ⟨out, hout, hra0⟩ := fill_RA _ _ _ _ _ (zeros_RA hzra (n * sz) (.inr hzl)) hl hr hf
  have hra : RA E (cs.map untok) out := ⟨by simpa using hra0.1, fun j x hj => by
    rw [List.getElem?_map] at hj
    cases hc : cs[j]? with
    | none => rw [hc] at hj; cases hj
    | some y => rw [hc] at hj; cases hj; exact untok_rel (hra0.2 j y hc)⟩
  have hlf' : ∀ x ∈ cs.map untok, lf1 x = true := by
    intro x hx
    rw [List.mem_map] at hx
    obtain ⟨y, hy, rfl⟩ := hx
    exact hlf y hy
  have hcl' : (cs.map untok).length = n * sz := by simpa using hcl
  refine ⟨E.withS w.heap.size (out[·]?), .slice (some ⟨w.heap.size, 0, none⟩) n n, w.alloc (.cells out elem), ?_, row_ext _ _ hg out elem, hg.row out elem, ?_⟩
  · simp only [execOp, ho, Instr.buildSlice, Sem.run_bind, pureEval_run hu, pureEval_run hs, Result.andThen_ok]
    rw [if_neg (by omega)]
    by_cases h0 : n * sz = 0
    · simp only [h0, if_true, Sem.run_pure, Result.andThen_ok]
      have e : (Array.range 0).map ((#[] : Array Value)[· % (#[] : Array Value).size]!) = (Array.range (n * sz)).map (z.cells[· % z.cells.size]!) := by rw [h0]; simp
      simp only [Sem.run_bind, Sem.run_pure, Result.andThen_ok] at *
      rw [e, hout]
      simp only [newRow, newObj, Sem.run_bind, Sem.run, Sem.run_pure, Result.andThen_ok]
      rfl
    · simp only [h0, if_false, Sem.run_bind, pureEval_run hz, Sem.run_pure, Result.andThen_ok]
      rw [hout]
      simp only [newRow, newObj, Sem.run_bind, Sem.run, Sem.run_pure, Result.andThen_ok]
      rfl
  · have hos : out.size = n * sz := by rw [hra.1, hcl']
    have hle := withS_le E w.heap.size (out[·]?)
    refine .rsl sz n _ .tight w.heap.size 0 n (fun i j => out.getD (i * sz + j) undef) hn rfl (Nat.le_refl _) (fun i hi => rowOf_length hcl' hi) (fun i hi x hx => lf1_one (hlf' x (List.mem_of_mem_drop (List.mem_of_mem_take hx)))) (fun i hi j x hj => ?_) (fun i hi j x hj => ?_)
    · have hj' := rowOf_get hj
      rw [row_S hg, Nat.zero_add]
      have hlt : i * sz + j < out.size := by rw [hra.1]; exact (List.getElem?_eq_some_iff.1 hj').1
      simp [Array.getD_eq_getD_getElem?, hlt]
    · have hj' := rowOf_get hj
      exact ((hra.2 _ x hj').data (lf1_LF (hlf' x (List.mem_of_getElem? hj')))).mono hle.data

/-- A new row that may be written. -/
theorem opA_makeSlice {t elem : TypeId} {p q : Operand} {k k2 : IntKind} {n sz : Nat} {i : TypeInfo} {z : Value} {zs : List AV} (ho : o.op = .makeSlice t p q) (hu : pureEval P (underlying t) = some (.slice elem)) (hs : pureEval P (Go.sizeOf elem) = some sz)
    (hi : pureEval P (typeInfo elem) = some i) (hz : pureEval P (zeroValue elem) = some z) (hzc : (constA z).cells = zs) (hzn : notAny (constA z) = true) (hzl : 0 < zs.length) (hp : opdA T p = .sc (.int k n)) (hq : opdA T q = .sc (.int k2 n))
    (hbig : i.bytes * n ≤ 2 ^ 24 ∧ n ≤ 2 ^ 24 ∧ 0 < n * sz) : OpA P o T H (.msl H.length sz n) (H ++ [.cells ((List.range (n * sz)).map fun i => zs.getD (i % zs.length) .any)]) [] := by
  refine opA_run fun E w0 w ρ hg ht => ?_
  have hrp := ht p (by simp [ho, Op.operands])
  rw [hp] at hrp
  have hrq := ht q (by simp [ho, Op.operands])
  rw [hq] at hrq
  generalize hv : ρ p = v at hrp
  generalize hw : ρ q = u at hrq
  cases hrp
  cases hrq
  have hzra : RA E zs z.cells := hzc ▸ cells_rel (constA_rel E _ z (Nat.lt_succ_self _)) hzn
  have hra := zeros_RA hzra (n * sz) (.inr hzl)
  have hwrap : IntKind.wrap .i64 (n : Int) = n := by
    have : (n : Int) % 18446744073709551616 = n := Int.emod_eq_of_lt (by omega) (by omega)
    simp only [IntKind.wrap, IntKind.bits, IntKind.signed]
    simp [this]
    omega
  refine ⟨E.withφ H.length w.heap.size, .slice (some ⟨w.heap.size, 0, none⟩) n n, w.alloc (.cells ((Array.range (n * sz)).map (z.cells[· % z.cells.size]!)) elem), ?_, new_ext _ _ (Nat.le_refl _) hg _ _, hg.new elem hra.cells, .msl _ _ _ _ (withφ_self _ _ _) (by unfold maxLen; omega)⟩
  have hbytes : ¬ ((i.bytes : Int) * (n : Int) > 2 ^ 48) := by
    have : ((i.bytes * n : Nat) : Int) = (i.bytes : Int) * (n : Int) := by simp
    omega
  have hneg : ¬ ((n : Int) < 0) := by omega
  have hself : ¬ ((n : Int) > (n : Int)) := by omega
  have hne : ¬ (n * sz = 0) := by omega
  simp only [execOp, ho, Instr.makeSlice, hv, hw, asInt, asIntOf, Sem.run_bind, pureEval_run hu, pureEval_run hs, pureEval_run hi, pureEval_run hz, Result.andThen_ok, Sem.run_pure, hwrap]
  simp only [hneg, hbytes, hself, decide_false, Bool.or_false, Bool.false_eq_true, if_false]
  have hask : (Sem.run P (askRoom (n * i.bytes)) w) = .ok () w := by
    unfold askRoom
    split
    · rfl
    · rfl
  simp only [Int.toNat_natCast, hask, Result.andThen_ok, hne, if_false, Sem.run_bind, pureEval_run hz, pureEval_run hs, Sem.run_pure]
  simp only [newRow, newObj, Sem.run_bind, Sem.run, Sem.run_pure, Result.andThen_ok]
  rfl

def notInt : TypeDesc → Bool
  | .int _ => false
  | _ => true

def isU8 (P : Program) (e : TypeId) : Bool :=
  match pureEval P (underlying e) with
  | some (.int .u8) => true
  | _ => false

theorem isU8_eq {e : TypeId} (h : isU8 P e = true) : pureEval P (underlying e) = some (.int .u8) := by
  unfold isU8 at h
  split at h
  · assumption
  · cases h

/-- What is known of the types at an append. -/
def appTT (P : Program) (t t2 : TypeId) : Option (Nat × Nat) :=
  match pureEval P (underlying t), pureEval P (underlying t2) with
  | some (.slice elem), some d =>
    match pureEval P (Go.sizeOf elem), pureEval P (typeInfo elem), pureEval P (zeroValue elem) with
    | some sz, some i, some z => if z.cells.size = sz ∧ notInt d = true then some (sz, i.bytes) else none
    | _, _, _ => none
  | _, _ => none

def appT (P : Program) (c : Call) : Option (Nat × Nat) :=
  match c.argTypes.toList with
  | [t, t2] => appTT P t t2
  | _ => none

theorem appT_ok {c : Call} {p q : Operand} {sz bytes : Nat} (hcal : c.callee = .builtin .append) (hargs : c.args.toList = [p, q]) (h : appT P c = some (sz, bytes)) : AppT P c p q sz bytes := by
  unfold appT at h
  split at h
  · rename_i t t2 hat
    unfold appTT at h
    split at h
    · rename_i elem d hu hd
      split at h
      · rename_i sz' i z hs hi hz
        split at h
        · rename_i hc
          cases h
          refine ⟨hcal, by apply Array.ext'; simpa using hargs, t, t2, elem, i, z, d, by apply Array.ext'; simpa using hat, hu, hs, hi, rfl, hz, hc.1, hd, fun k e => ?_⟩
          subst e
          simp [notInt] at hc
        · cases h
      · cases h
    · cases h
  · cases h

def appX (P : Program) (c : Call) (T : List AV) (H : AHeap) : Option (AV × AHeap × List Nat) :=
  match c.args.toList, appT P c with
  | [p, q], some (sz, bytes) =>
    match opdA T p, srcA sz (opdA T q) with
    | .rsl nl sz' n el own, some (m, el2) =>
      if m = 0 then some (.rsl nl sz' n el own, H, [])
      else if (n + m) * bytes ≤ 2 ^ 46 ∧ n + m < 2 ^ 62 then
        match own with
        | .tok t => match H[t]? with
          | some (.tail n' sz2) => if n' = n ∧ sz2 = sz ∧ sz' = sz then some (.rsl false sz (n + m) (catEl n el el2) (.tok t), H.set t (.tail (n + m) sz), [t]) else none
          | _ => none
        | .tight => if n = 0 ∨ sz' = sz then some (.rsl false sz (n + m) (catEl n el el2) (.tok H.length), H ++ [.tail (n + m) sz], []) else none
        | .non => if nl = true ∧ (n = 0 ∨ sz' = sz) then some (.rsl false sz (n + m) (catEl n el el2) (.tok H.length), H ++ [.tail (n + m) sz], []) else none
      else none
    | _, _ => none
  | _, _ => none

theorem appX_sound {c : Call} {x : AV} {H' : AHeap} {Wr : List Nat} (ho : o.op = .call c) (hcal : c.callee = .builtin .append) (h : appX P c T H = some (x, H', Wr)) : OpA P o T H x H' Wr := by
  unfold appX at h
  split at h
  · rename_i p q sz bytes hargs hT
    have hA := appT_ok hcal hargs hT
    split at h
    · rename_i nl sz' n el own m el2 hp hq
      split at h
      · rename_i hm
        subst hm
        cases h
        exact (opS_append_none hA ho hp hq).a
      · rename_i hm
        split at h
        · rename_i hb
          split at h
          · rename_i t
            split at h
            · rename_i n' sz2 hH
              split at h
              · rename_i hc
                obtain ⟨rfl, rfl, rfl⟩ := hc
                cases h
                exact opA_append_tok hA ho hp hq hH (by omega) hb.1 hb.2
              · cases h
            · cases h
          · split at h
            · rename_i hc
              cases h
              exact opA_append_new hA ho hp hq (.inl rfl) hc (by omega) hb.1 hb.2
            · cases h
          · split at h
            · rename_i hc
              cases h
              exact opA_append_new hA ho hp hq (.inr hc.1) hc.2 (by omega) hb.1 hb.2
            · cases h
        · cases h
    · cases h
  · cases h

def stepX (P : Program) (o : Oper) (T : List AV) (H : AHeap) : Option (AV × AHeap × List Nat) :=
  match o.op with
  | .box _ q => if notAny (opdA T q) then some (.ptr H.length 0, H ++ [.cells (opdA T q).cells], []) else none
  | .alloc t => match pureEval P (zeroValue t) with
    | some z => if notAny (constA z) then some (.ptr H.length 0, H ++ [.cells (constA z).cells], []) else none
    | none => none
  | .store t p q => match opdA T p with
    | .ptr l off => match H[l]? with
      | some (.cells cs) =>
        if notAny (opdA T q) = true ∧ pureEval P (Go.sizeOf t) = some (opdA T q).cells.length ∧ (opdA T q).cells.all oneC = true ∧ off + (opdA T q).cells.length ≤ cs.length then
          some (.any, H.set l (.cells (setMany cs off (opdA T q).cells)), [l]) else none
      | _ => none
    | _ => none
  | .buildSlice t n ps => match pureEval P (underlying t) with
    | some (.slice elem) => match pureEval P (Go.sizeOf elem), pureEval P (zeroValue elem) with
      | some sz, some z =>
        match fillA (fun i => some (i * sz, sz)) ((List.range (n * sz)).map fun i => (constA z).cells.getD (i % (constA z).cells.length) .any) (ps.toList.map fun (i, x) => (i, opdA T x)) with
        | some cs => if notAny (constA z) = true ∧ 0 < (constA z).cells.length ∧ n * sz ≤ 2 ^ 24 ∧ cs.length = n * sz ∧ cs.all (fun x => lf1 (untok x)) = true ∧ n ≤ maxLen then some (.rsl false sz n (rowOf sz (cs.map untok)) .tight, H, []) else none
        | none => none
      | _, _ => none
    | _ => none
  | .convert src dst p => match pureEval P (underlying src), pureEval P (underlying dst), opdA T p with
    | some .string, some (.slice e), .sc (.string s) => if isU8 P e = true ∧ s.size < 2 ^ 62 then some (.rsl false 1 s.size (strEl s) .non, H, []) else none
    | _, _, _ => none
  | .call c => match c.callee with
    | .builtin .append => appX P c T H
    | _ => none
  | .makeSlice t p q => match pureEval P (underlying t), opdA T p, opdA T q with
    | some (.slice elem), .sc (.int _ (.ofNat n)), .sc (.int _ (.ofNat n2)) => match pureEval P (Go.sizeOf elem), pureEval P (typeInfo elem), pureEval P (zeroValue elem) with
      | some sz, some i, some z => if n2 = n ∧ notAny (constA z) = true ∧ 0 < (constA z).cells.length ∧ i.bytes * n ≤ 2 ^ 24 ∧ n ≤ 2 ^ 24 ∧ 0 < n * sz then
          some (.msl H.length sz n, H ++ [.cells ((List.range (n * sz)).map fun i => (constA z).cells.getD (i % (constA z).cells.length) .any)], []) else none
      | _, _, _ => none
    | _, _, _ => none
  | _ => none

theorem stepX_sound {x : AV} {H' : AHeap} {Wr : List Nat} (h : stepX P o T H = some (x, H', Wr)) : OpA P o T H x H' Wr := by
  unfold stepX at h
  split at h
  · rename_i t q ho
    split at h
    · rename_i hn; cases h; exact opA_box ho rfl hn
    · cases h
  · rename_i t ho
    split at h
    · rename_i z hz
      split at h
      · rename_i hn; cases h; exact opA_alloc ho hz rfl hn
      · cases h
    · cases h
  · rename_i t p q ho
    split at h
    · rename_i l off hp
      split at h
      · rename_i cs hl
        split at h
        · rename_i hc
          cases h
          exact opA_store ho hp hl rfl hc.1 hc.2.1 (by simpa using hc.2.2.1) hc.2.2.2
        · cases h
      · cases h
    · cases h
  · rename_i t n ps ho
    split at h
    · rename_i elem hu
      split at h
      · rename_i sz z hs hz
        split at h
        · rename_i cs hf
          split at h
          · rename_i hc
            cases h
            exact opA_buildSlice' ho hu hs hz rfl hc.1 hc.2.1 hc.2.2.1 hf hc.2.2.2.1 (by simpa using hc.2.2.2.2.1) hc.2.2.2.2.2
          · cases h
        · cases h
      · cases h
    · cases h
  · rename_i src dst p ho
    split at h
    · rename_i e s hu1 hu2 hp
      split at h
      · rename_i hc; cases h; exact opA_strBytes ho hu1 hu2 (isU8_eq hc.1) hp hc.2
      · cases h
    · cases h
  · rename_i c ho
    split at h
    · rename_i hc; exact appX_sound ho hc h
    · cases h
  · rename_i t p q ho
    split at h
    · rename_i elem k n k2 n2 hu hp hq
      split at h
      · rename_i sz i z hs hi hz
        split at h
        · rename_i hc
          obtain ⟨rfl, h1, h2, h3⟩ := hc
          cases h
          exact opA_makeSlice ho hu hs hi hz rfl h1 h2 hp hq h3
        · cases h
      · cases h
    · cases h
  · cases h

/-- Any operation but calls. -/
def stepA (P : Program) (o : Oper) (T : List AV) (H : AHeap) : Option (AV × AHeap × List Nat) :=
  match stepS P o T H with
  | some x => some (x, H, [])
  | none => stepX P o T H

theorem stepA_sound {x : AV} {H' : AHeap} {Wr : List Nat} (h : stepA P o T H = some (x, H', Wr)) : OpA P o T H x H' Wr := by
  unfold stepA at h
  split at h
  · rename_i y hy; cases h; exact (stepS_sound hy).a
  · exact stepX_sound h
end
end Go.Proofs.YtiipaliigpkfhaaGreat.Ab

/- Part 14: a region whose order is open: carried out in any order that its edges allow, it comes to what the order of the text comes to. -/
set_option linter.unusedVariables false
set_option linter.unusedSimpArgs false
namespace Go.Proofs.YtiipaliigpkfhaaGreat.Ab
open Go Go.RowKit

/-! ### What comes ahead of what -/
def maskOf (o : Oper) (acc : List Nat) : Nat := o.after.toList.foldl (fun s e => if Region.binds .any e then s ||| (2 ^ e.on ||| acc.getD e.on 0) else s) 0
def masksGo : List Oper → List Nat → List Nat
  | [], acc => acc
  | o :: r, acc => masksGo r (acc ++ [maskOf o acc])
def masks (ops : Array Oper) : List Nat := masksGo ops.toList []
/-- a comes ahead of b. -/
def lt (M : List Nat) (a b : Nat) : Bool := (M.getD b 0).testBit a

theorem masksGo_append (r : List Oper) : ∀ acc : List Nat, ∃ t, masksGo r acc = acc ++ t ∧ t.length = r.length := by
  induction r with
  | nil => exact fun acc => ⟨[], by simp [masksGo], rfl⟩
  | cons o r ih =>
    intro acc
    obtain ⟨t, h, hl⟩ := ih (acc ++ [maskOf o acc])
    exact ⟨maskOf o acc :: t, by rw [masksGo, h]; simp, by simp [hl]⟩

theorem masksGo_get : ∀ (r : List Oper) (acc : List Nat) (k : Nat) (o : Oper), r[k]? = some o → (masksGo r acc).getD (acc.length + k) 0 = maskOf o ((masksGo r acc).take (acc.length + k)) := by
  intro r
  induction r with
  | nil => intro acc k o h; simp at h
  | cons p r ih =>
    intro acc k o h
    cases k with
    | zero =>
      simp at h
      subst h
      rw [masksGo]
      obtain ⟨t, ht, _⟩ := masksGo_append r (acc ++ [maskOf p acc])
      rw [ht]
      simp [List.getD_eq_getElem?_getD]
    | succ k =>
      have := ih (acc ++ [maskOf p acc]) k o (by simpa using h)
      rw [masksGo]
      rw [show acc.length + (k + 1) = (acc ++ [maskOf p acc]).length + k by simp; omega]
      exact this

theorem fold_bit (acc : List Nat) (a : Nat) : ∀ (es : List Edge) (s : Nat), (es.foldl (fun s e => if Region.binds .any e then s ||| (2 ^ e.on ||| acc.getD e.on 0) else s) s).testBit a = true →
    s.testBit a = true ∨ ∃ e ∈ es, Region.binds .any e = true ∧ (a = e.on ∨ (acc.getD e.on 0).testBit a = true) := by
  intro es
  induction es with
  | nil => exact fun s h => .inl h
  | cons e r ih =>
    intro s h
    rw [List.foldl_cons] at h
    rcases ih _ h with h1 | ⟨e', he, hb, hx⟩
    · by_cases hb : Region.binds .any e = true
      · rw [if_pos hb, Nat.testBit_or, Bool.or_eq_true, Nat.testBit_or, Bool.or_eq_true] at h1
        rcases h1 with h1 | h1 | h1
        · exact .inl h1
        · refine .inr ⟨e, List.mem_cons_self, hb, .inl ?_⟩
          rw [Nat.testBit_two_pow] at h1
          have := of_decide_eq_true h1
          omega
        · exact .inr ⟨e, List.mem_cons_self, hb, .inr h1⟩
      · rw [if_neg hb] at h1
        exact .inl h1
    · exact .inr ⟨e', List.mem_cons_of_mem _ he, hb, hx⟩

theorem lt_edge {ops : Array Oper} {a b : Nat} {o : Oper} (ho : ops[b]? = some o) (h : lt (masks ops) a b = true) : ∃ e ∈ o.after, Region.binds .any e = true ∧ (a = e.on ∨ (e.on < b ∧ lt (masks ops) a e.on = true)) := by
  unfold lt masks at h
  have hg := masksGo_get ops.toList [] b o (by simpa using ho)
  simp only [List.length_nil, Nat.zero_add] at hg
  rw [hg] at h
  rcases fold_bit _ a _ 0 h with h1 | ⟨e, he, hb, hx⟩
  · simp at h1
  · refine ⟨e, by simpa using he, hb, ?_⟩
    rcases hx with hx | hx
    · exact .inl hx
    · rcases Nat.lt_or_ge e.on b with hlt | hge
      · refine .inr ⟨hlt, ?_⟩
        unfold lt masks
        rw [List.getD_eq_getElem?_getD, List.getElem?_take, if_pos hlt, ← List.getD_eq_getElem?_getD] at hx
        exact hx
      · rw [List.getD_eq_getElem?_getD, List.getElem?_take, if_neg (by omega)] at hx
        simp at hx

/-- What is listed is closed. -/
def Closed (ops : Array Oper) (C : Nat → Bool) : Prop := ∀ b o, ops[b]? = some o → C b = true → ∀ e ∈ o.after, Region.binds .any e = true → C e.on = true

theorem lt_closed {ops : Array Oper} {C : Nat → Bool} (hc : Closed ops C) : ∀ (b : Nat), b < ops.size → C b = true → ∀ a, lt (masks ops) a b = true → C a = true := by
  intro b
  induction b using Nat.strongRecOn with
  | _ b ih =>
    intro hb hC a hl
    have ho : ops[b]? = some ops[b] := by simp [hb]
    obtain ⟨e, he, hbi, hx⟩ := lt_edge ho hl
    have := hc b _ ho hC e he hbi
    rcases hx with rfl | ⟨h1, h2⟩
    · exact this
    · exact ih e.on h1 (by omega) this a h2

/-- The same, of what may come next. -/
theorem lt_ready {ops : Array Oper} {C : Nat → Bool} (hc : Closed ops C) {b : Nat} {o : Oper} (ho : ops[b]? = some o) (hr : ∀ e ∈ o.after, Region.binds .any e = true → C e.on = true) (a : Nat) (h : lt (masks ops) a b = true) : C a = true := by
  obtain ⟨e, he, hbi, hx⟩ := lt_edge ho h
  have hb := (Array.getElem?_eq_some_iff.1 ho).1
  rcases hx with rfl | ⟨h1, h2⟩
  · exact hr e he hbi
  · exact lt_closed hc e.on (by omega) (hr e he hbi) a h2

/-! ### Slots -/
/-- What an operation looks at or writes. -/
def looks (ops : Array Oper) (o : Oper) : List Nat :=
  o.dst.toList ++ (o.op.operands.toList.filterMap fun | .tmp t => some t | _ => none) ++ (match o.guard with
    | some (j, _) => ((ops[j]?).bind (·.dst)).toList
    | none => [])

/-- Slots under C: who is in C has written. -/
def foldC (ops : Array Oper) (x : Nat → AV) (C : Nat → Bool) : List Nat → List AV → List AV
  | [], T => T
  | i :: r, T => foldC ops x C r (if C i then (match ops[i]? with | some o => putA T o.dst (x i) | none => T) else T)

theorem putA_length (T : List AV) (d : Option Tmp) (x : AV) : (putA T d x).length = T.length := by cases d <;> simp [putA]
theorem putA_get_ne {T : List AV} {d : Option Tmp} {x : AV} {t : Nat} (h : d ≠ some t) : (putA T d x)[t]? = T[t]? := by
  cases d with
  | none => rfl
  | some d => exact List.getElem?_set_ne (fun e => h (by rw [e]))
theorem putA_get_self {T : List AV} {x : AV} {t : Nat} (h : t < T.length) : (putA T (some t) x)[t]? = some x := List.getElem?_set_self h

theorem foldC_length (ops : Array Oper) (x : Nat → AV) (C : Nat → Bool) : ∀ (l : List Nat) (T : List AV), (foldC ops x C l T).length = T.length
  | [], T => rfl
  | i :: r, T => by
    rw [foldC, foldC_length ops x C r]
    split
    · split
      · exact putA_length _ _ _
      · rfl
    · rfl

/-- A slot hangs on its writers alone. -/
theorem foldC_slot {ops : Array Oper} {x : Nat → AV} {C D : Nat → Bool} {t : Nat} : ∀ (l : List Nat) (T T' : List AV), T.length = T'.length → T[t]? = T'[t]? → (∀ i ∈ l, ∀ o, ops[i]? = some o → o.dst = some t → C i = D i) → (foldC ops x C l T)[t]? = (foldC ops x D l T')[t]?
  | [], T, T', _, h, _ => h
  | i :: r, T, T', hl, h, hc => by
    rw [foldC, foldC]
    refine foldC_slot r _ _ ?_ ?_ (fun j hj => hc j (List.mem_cons_of_mem _ hj))
    · split <;> split <;> (first | exact hl | (split <;> simp [putA_length, hl]))
    · cases ho : ops[i]? with
      | none => simpa using h
      | some o =>
        by_cases hd : o.dst = some t
        · rw [hc i List.mem_cons_self o ho hd]
          split
          · simp only [hd]
            by_cases hlt : t < T.length
            · rw [putA_get_self hlt, putA_get_self (by omega)]
            · rw [List.getElem?_eq_none (by rw [putA_length]; omega), List.getElem?_eq_none (by rw [putA_length]; omega)]
          · exact h
        · have e1 : ∀ (b : Bool) (S : List AV), (if b = true then putA S o.dst (x i) else S)[t]? = S[t]? := by
            intro b S
            cases b
            · rfl
            · exact putA_get_ne hd
          simp only [e1, h]

theorem foldC_none {ops : Array Oper} {x : Nat → AV} : ∀ (l : List Nat) (T : List AV), foldC ops x (fun _ => false) l T = T
  | [], T => rfl
  | i :: r, T => by rw [foldC]; simp [foldC_none r]

/-! ### Operations that leave the heap as it was -/
theorem owns_len {E : Env} {H : AHeap} {l b : Nat} (h : owns E H l b) : l < H.length := by
  unfold owns at h
  cases hl : H[l]? with
  | none => rw [hl] at h; exact h.elim
  | some o => exact (List.getElem?_eq_some_iff.1 hl).1

structure ExtF (al : Option Nat) (E : Env) (H : AHeap) (w : World) (E' : Env) (w' : World) : Prop where
  le : E.le E'
  size : w.heap.size ≤ w'.heap.size
  keep : ∀ {l b}, owns E H l b → w'.heap[b]? = w.heap[b]?
  old : ∀ {l}, l < H.length → al ≠ some l → E'.φ l = E.φ l
  stay : ∀ {b}, b < w.heap.size → (∀ l, ¬ owns E H l b) → w'.heap[b]? = w.heap[b]? ∧ (∀ l, ¬ owns E' H l b) ∧ ∀ o, E'.S b o = E.S b o

/-- It may come at any time; al: the label that was kept for it. -/
def OpF (P : Program) (o : Oper) (T : List AV) (H : AHeap) (x : AV) (al : Option Nat) : Prop :=
  ∀ (E : Env) (w0 w : World) (ρ : Operand → Value), Good E H w0 w → (∀ l, al = some l → E.φ l = none) → RelO E T o ρ →
    OpR P o ρ w fun v w' => ∃ E', ExtF al E H w E' w' ∧ Good E' H w0 w' ∧ Rel E' x v

theorem OpR.mono {P : Program} {o : Oper} {ρ : Operand → Value} {w : World} {K K' : Value → World → Prop} (h : OpR P o ρ w K) (hk : ∀ v w', K v w' → K' v w') : OpR P o ρ w K' := by
  unfold OpR at *
  split at h
  · exact hk _ _ h
  · exact hk _ _ h
  · refine h.mono ?_
    intro e w'' he
    cases e with
    | returned v => exact hk _ _ he
    | panicked c => exact he.elim
    | outgrown => exact he.elim
  · exact h.elim

theorem OpA.f {P : Program} {o : Oper} {T : List AV} {H : AHeap} {x : AV} (h : OpA P o T H x H []) : OpF P o T H x none := by
  intro E w0 w ρ hg _ ht
  refine (h E w0 w ρ hg ht).mono ?_
  rintro v w' ⟨E', ex, g, r⟩
  exact ⟨E', ⟨ex.le, ex.size, fun ho => ex.keep (owns_len ho) (by simp) ho, fun hl _ => ex.old hl, ex.stay⟩, g, r⟩

theorem OpF.a {P : Program} {o : Oper} {T : List AV} {H : AHeap} {x : AV} (h : OpF P o T H x none) : OpA P o T H x H [] := by
  intro E w0 w ρ hg ht
  refine (h E w0 w ρ hg (fun l e => by cases e) ht).mono ?_
  rintro v w' ⟨E', ex, g, r⟩
  exact ⟨E', ⟨ex.le, ex.size, Nat.le_refl _, fun _ _ => rfl, fun _ _ ho => ex.keep ho, fun hl => ex.old hl (by simp), ex.stay⟩, g, r⟩

theorem Ext.thenF {n0 : Nat} {W : Nat → Prop} {E0 E E' : Env} {H0 H : AHeap} {w0 w w' : World} {al : Option Nat} (h : Ext n0 W E0 H0 w0 E H w) (k : ExtF al E H w E' w') (ha : ∀ l, al = some l → H0.length ≤ l) : Ext n0 W E0 H0 w0 E' H w' :=
  ⟨h.le.trans k.le, Nat.le_trans h.size k.size, h.len, h.same, fun hl hw ho => (k.keep (ho.step h.le (h.same hl hw))).trans (h.keep hl hw ho),
   fun {l} hl => (k.old (Nat.lt_of_lt_of_le hl h.len) (fun e => by have := ha l e; omega)).trans (h.old hl),
   fun hb h0 => ⟨(k.stay (Nat.lt_of_lt_of_le hb h.size) (h.stay hb h0).2.1).1.trans (h.stay hb h0).1, (k.stay (Nat.lt_of_lt_of_le hb h.size) (h.stay hb h0).2.1).2.1, fun o => ((k.stay (Nat.lt_of_lt_of_le hb h.size) (h.stay hb h0).2.1).2.2 o).trans ((h.stay hb h0).2.2 o)⟩⟩

theorem owns_settle {E : Env} {H : AHeap} {l x k b : Nat} (h : owns (E.withφ l x) H k b) : owns E H k b ∨ b = x := by
  by_cases hk : k = l
  · subst hk
    have e : (E.withφ k x).φ k = some x := withφ_self _ _ _
    unfold owns at h ⊢
    cases hk' : H[k]? with
    | none => rw [hk'] at h; exact h.elim
    | some o =>
      rw [hk'] at h
      cases o with
      | dead => exact h.elim
      | cells cs => exact .inr (Option.some.inj (e.symm.trans h)).symm
      | tail n sz => exact .inl h
      | map es => exact .inr (Option.some.inj (e.symm.trans h)).symm
      | iter m => exact .inr (Option.some.inj (e.symm.trans h)).symm
      | mark k => exact .inr (Option.some.inj (e.symm.trans h)).symm
  · refine .inl ?_
    have e : (E.withφ l x).φ k = E.φ k := withφ_ne E hk
    unfold owns at h ⊢
    cases hk' : H[k]? with
    | none => rw [hk'] at h; exact h.elim
    | some o =>
      rw [hk'] at h
      cases o with
      | dead => exact h
      | cells cs => exact e.symm.trans h
      | tail n sz => exact h
      | map es => exact e.symm.trans h
      | iter m => exact e.symm.trans h
      | mark k => exact e.symm.trans h

/-- A variable whose label was kept for it. -/
theorem Good.settle {E : Env} {H : AHeap} {w0 w : World} (g : Good E H w0 w) {l : Nat} {cs : List AV} {arr : Array Value} (T : TypeId) (hl : H[l]? = some (.cells cs)) (hφ : E.φ l = none) (hr : RelCells E cs arr) :
    Good (E.withφ l w.heap.size) H w0 (w.alloc (.cells arr T)) := by
  have hle : E.le (E.withφ l w.heap.size) := Env.withφ_le hφ
  have gp := g.push (.cells arr T)
  have back : ∀ k b, owns (E.withφ l w.heap.size) H k b → k ≠ l → owns E H k b := by
    intro k b ho hk
    unfold owns at ho ⊢
    cases hk' : H[k]? with
    | none => rw [hk'] at ho; exact ho.elim
    | some o =>
      rw [hk'] at ho
      have e : (E.withφ l w.heap.size).φ k = E.φ k := withφ_ne E hk
      cases o with
      | dead => exact ho
      | cells cs => exact e.symm.trans ho
      | tail n sz => exact ho
      | map es => exact e.symm.trans ho
      | iter m => exact e.symm.trans ho
      | mark k => exact e.symm.trans ho
  have self : ∀ b, owns (E.withφ l w.heap.size) H l b → b = w.heap.size := by
    intro b ho
    unfold owns at ho
    rw [hl] at ho
    have : (E.withφ l w.heap.size).φ l = some w.heap.size := withφ_self _ _ _
    rw [this] at ho
    exact (Option.some.inj ho).symm
  refine ⟨gp.below, fun h => gp.snap h, fun {k o} hk => ?_, fun {k k' b} h1 h2 => ?_, fun {k} hk => ?_, fun {k b} hk => ?_⟩
  · by_cases hkl : k = l
    · subst hkl
      rw [hl] at hk
      cases hk
      intro b hb
      rw [withφ_self] at hb
      simp only [Option.some.injEq] at hb
      subst hb
      refine ⟨g.below.size, fun c => S_new_none g c, arr, T, heap_alloc_new w _, fun j x hj => ?_⟩
      obtain ⟨u, hu, h⟩ := hr j x hj
      exact ⟨u, hu, h.mono hle⟩
    · refine (gp.obj hk).step hk hle (fun b hb => ?_) (fun m => rfl) (fun b c hb hc hn => hn) (fun b hb => rfl)
      rw [withφ_ne E hkl] at hb; exact hb
  · by_cases h1l : k = l
    · by_cases h2l : k' = l
      · rw [h1l, h2l]
      · subst h1l
        have := self b h1
        have := g.ownlt (back k' b h2 h2l)
        omega
    · by_cases h2l : k' = l
      · subst h2l
        have := self b h2
        have := g.ownlt (back k b h1 h1l)
        omega
      · exact g.sep (back k b h1 h1l) (back k' b h2 h2l)
  · have hkl : k ≠ l := fun e => by have := (List.getElem?_eq_some_iff.1 hl).1; omega
    have := g.fresh hk
    exact ⟨(withφ_ne E hkl).trans this.1, this.2⟩
  · by_cases hkl : k = l
    · subst hkl
      rw [withφ_self] at hk
      simp only [Option.some.injEq] at hk
      subst hk
      rw [alloc_size]; omega
    · rw [withφ_ne E hkl] at hk
      exact gp.φlt hk

/-- The order of the text, told by functions of the place. -/
structure Seq (P : Program) (ops : Array Oper) (T0 : List AV) (H0 : AHeap) (T' : List AV) (H' : AHeap) where
  Ts : Nat → List AV
  Hs : Nat → AHeap
  x : Nat → AV
  fl : Nat → Bool
  rd : Nat → List Nat
  alt : Nat → Nat → Option AObj
  al : Nat → Option Nat
  Wr : Nat → List Nat
  t0 : Ts 0 = T0
  h0 : Hs 0 = H0
  tn : Ts ops.size = T'
  hn : Hs ops.size = H'
  next : ∀ i o, ops[i]? = some o → Ts (i + 1) = putA (Ts i) o.dst (x i)
  step : ∀ i o, ops[i]? = some o → (wantedA ops (Ts i) o = some false ∧ x i = skipA ∧ fl i = true ∧ Hs (i + 1) = Hs i) ∨
    (wantedA ops (Ts i) o = some true ∧ fl i = true ∧ Hs (i + 1) = Hs i ∧ ∀ H : AHeap, (∀ l ∈ rd i, H[l]? = (Hs i)[l]? ∨ ∃ ob, alt i l = some ob ∧ H[l]? = some ob) → OpF P o (Ts i) H (x i) (al i)) ∨
    (wantedA ops (Ts i) o = some true ∧ fl i = false ∧ OpA P o (Ts i) (Hs i) (x i) (Hs (i + 1)) (Wr i) ∧ (Hs i).length ≤ (Hs (i + 1)).length ∧ ∀ l, l < (Hs i).length → l ∉ Wr i → (Hs (i + 1))[l]? = (Hs i)[l]?)

/-- The order's conditions. -/
structure OrderOk (ops : Array Oper) (fl : Nat → Bool) (rd : Nat → List Nat) (alt : Nat → Nat → Option AObj) (Hs : Nat → AHeap) (Wr : Nat → List Nat) (H0 : AHeap) : Prop where
  slots : ∀ i o, ops[i]? = some o → ∀ t ∈ looks ops o, ∀ j q, ops[j]? = some q → q.dst = some t → j ≠ i → lt (masks ops) (min i j) (max i j) = true
  effects : ∀ i j, i < j → j < ops.size → fl i = false → fl j = false → lt (masks ops) i j = true
  before : ∀ i j l, j < i → i < ops.size → fl i = true → fl j = false → l ∈ rd i → l ∈ Wr j → lt (masks ops) j i = true
  behind : ∀ i j l, i < j → j < ops.size → fl i = true → fl j = false → l ∈ rd i → l ∈ Wr j → lt (masks ops) i j = true ∨ ∃ ob, alt i l = some ob ∧ (Hs (j + 1))[l]? = some ob
  known : ∀ i l, i < ops.size → l ∈ rd i → l < H0.length
  edges : ∀ i o, ops[i]? = some o → ∀ e ∈ o.after, Region.binds .any e = true → e.on < i

section
variable {P : Program} {ops : Array Oper} {T0 T' : List AV} {H0 H' : AHeap}

theorem foldC_append (x : Nat → AV) (C : Nat → Bool) : ∀ (l1 l2 : List Nat) (T : List AV), foldC ops x C (l1 ++ l2) T = foldC ops x C l2 (foldC ops x C l1 T)
  | [], l2, T => rfl
  | i :: r, l2, T => by rw [List.cons_append, foldC, foldC_append x C r, foldC]

theorem foldC_false (x : Nat → AV) (C : Nat → Bool) : ∀ (l : List Nat) (T : List AV), (∀ i ∈ l, C i = false) → foldC ops x C l T = T
  | [], T, _ => rfl
  | i :: r, T, h => by
    rw [foldC, h i List.mem_cons_self]
    exact foldC_false x C r T (fun j hj => h j (List.mem_cons_of_mem _ hj))

theorem foldC_congr (x : Nat → AV) (C D : Nat → Bool) : ∀ (l : List Nat) (T : List AV), (∀ i ∈ l, C i = D i) → foldC ops x C l T = foldC ops x D l T
  | [], T, _ => rfl
  | i :: r, T, h => by
    rw [foldC, foldC, h i List.mem_cons_self]
    exact foldC_congr x C D r _ (fun j hj => h j (List.mem_cons_of_mem _ hj))

theorem Seq.Ts_fold (S : Seq P ops T0 H0 T' H') : ∀ k, k ≤ ops.size → S.Ts k = foldC ops S.x (fun j => decide (j < k)) (List.range ops.size) T0 := by
  have key : ∀ k, k ≤ ops.size → S.Ts k = foldC ops S.x (fun _ => true) (List.range k) T0 := by
    intro k
    induction k with
    | zero => intro _; rw [S.t0]; rfl
    | succ k ih =>
      intro hk
      rw [List.range_succ, foldC_append, ← ih (by omega)]
      have ho : ops[k]? = some ops[k] := by simp [show k < ops.size by omega]
      rw [S.next k _ ho, foldC, foldC]
      simp [ho]
  intro k hk
  have hr : List.range ops.size = List.range k ++ (List.range (ops.size - k)).map (k + ·) := by
    rw [← List.range_add]; congr 1; omega
  rw [hr, foldC_append, key k hk, foldC_false _ _ ((List.range (ops.size - k)).map (k + ·))]
  · exact foldC_congr _ _ _ _ _ (fun i hi => by simp at hi; simp [hi])
  · intro i hi
    simp at hi
    obtain ⟨a, _, rfl⟩ := hi
    simp

/-- Heaps where nothing has been carried out between. -/
theorem Seq.Hs_same (S : Seq P ops T0 H0 T' H') {p : Nat} : ∀ q, p ≤ q → q ≤ ops.size → (∀ i, p ≤ i → i < q → S.fl i = true) → S.Hs q = S.Hs p := by
  intro q
  induction q with
  | zero => intro h _ _; have : p = 0 := by omega
            subst this; rfl
  | succ q ih =>
    intro h1 h2 h3
    rcases Nat.lt_or_ge q p with h | h
    · have : p = q + 1 := by omega
      subst this; rfl
    · rw [← ih h (by omega) (fun i hi hq => h3 i hi (by omega))]
      have ho : ops[q]? = some ops[q] := by simp [show q < ops.size by omega]
      have hf := h3 q h (by omega)
      rcases S.step q _ ho with ⟨_, _, _, h4⟩ | ⟨_, _, h4, _⟩ | ⟨_, h4, _⟩
      · exact h4
      · exact h4
      · rw [hf] at h4; cases h4

theorem Seq.Hs_len (S : Seq P ops T0 H0 T' H') : ∀ q, q ≤ ops.size → H0.length ≤ (S.Hs q).length := by
  intro q
  induction q with
  | zero => intro _; rw [S.h0]; exact Nat.le_refl _
  | succ q ih =>
    intro h
    have ho : ops[q]? = some ops[q] := by simp [show q < ops.size by omega]
    have := ih (by omega)
    rcases S.step q _ ho with ⟨_, _, _, h4⟩ | ⟨_, _, h4, _⟩ | ⟨_, _, _, h4, _⟩
    · rw [h4]; exact this
    · rw [h4]; exact this
    · omega

/-- A label that nobody between writes. -/
theorem Seq.Hs_label (S : Seq P ops T0 H0 T' H') {l : Nat} (hl : l < H0.length) {p : Nat} : ∀ q, p ≤ q → q ≤ ops.size → (∀ i, p ≤ i → i < q → S.fl i = false → l ∉ S.Wr i) → (S.Hs q)[l]? = (S.Hs p)[l]? := by
  intro q
  induction q with
  | zero => intro h _ _; have : p = 0 := by omega
            subst this; rfl
  | succ q ih =>
    intro h1 h2 h3
    rcases Nat.lt_or_ge q p with h | h
    · have : p = q + 1 := by omega
      subst this; rfl
    · rw [← ih h (by omega) (fun i hi hq => h3 i hi (by omega))]
      have ho : ops[q]? = some ops[q] := by simp [show q < ops.size by omega]
      rcases S.step q _ ho with ⟨_, _, _, h4⟩ | ⟨_, _, h4, _⟩ | ⟨_, h4, _, _, h5⟩
      · rw [h4]
      · rw [h4]
      · exact h5 l (Nat.lt_of_lt_of_le hl (S.Hs_len q (by omega))) (h3 q h (by omega) h4)

theorem wantedA_congr {T1 T2 : List AV} {o : Oper} (h : ∀ t ∈ looks ops o, T1[t]? = T2[t]?) : wantedA ops T1 o = wantedA ops T2 o := by
  unfold wantedA
  cases hg : o.guard with
  | none => rfl
  | some g =>
    obtain ⟨j, want⟩ := g
    simp only
    congr 1
    unfold yieldedA
    cases hd : (ops[j]?).bind (·.dst) with
    | none => rfl
    | some d =>
      simp only [Option.bind_some]
      rw [h d (by unfold looks; rw [hg]; simp [hd])]

theorem opdA_congr {T1 T2 : List AV} {o : Oper} (h : ∀ t ∈ looks ops o, T1[t]? = T2[t]?) {p : Operand} (hp : p ∈ o.op.operands) : opdA T1 p = opdA T2 p := by
  cases p with
  | tmp t =>
    simp only [opdA, List.getD_eq_getElem?_getD]
    rw [h t (by
      unfold looks
      refine List.mem_append_left _ (List.mem_append_right _ ?_)
      rw [List.mem_filterMap]
      exact ⟨.tmp t, by simpa using hp, rfl⟩)]
  | _ => rfl

theorem upC {C : Nat → Bool} {i j : Nat} (h : j ≠ i) : (fun k => if k = i then true else C k) j = C j := by simp [h]

variable (S : Seq P ops T0 H0 T' H') (hok : OrderOk ops S.fl S.rd S.alt S.Hs S.Wr H0)
include hok

/-- What is in C of those that write a slot that i looks at: those ahead of i in the text. -/
theorem Seq.writers {C : Nat → Bool} (hc : Closed ops C) {i : Nat} {o : Oper} (ho : ops[i]? = some o) (hi : C i = false) (hr : ∀ e ∈ o.after, Region.binds .any e = true → C e.on = true) {t : Nat} (ht : t ∈ looks ops o) {j : Nat} {q : Oper} (hq : ops[j]? = some q) (hd : q.dst = some t) :
    C j = decide (j < i) := by
  have hj := (Array.getElem?_eq_some_iff.1 hq).1
  rcases Nat.lt_trichotomy j i with h | h | h
  · have := hok.slots i o ho t ht j q hq hd (by omega)
    rw [Nat.min_eq_right (by omega), Nat.max_eq_left (by omega)] at this
    rw [lt_ready hc ho hr j this]
    simp [h]
  · subst h; simp [hi]
  · have := hok.slots i o ho t ht j q hq hd (by omega)
    rw [Nat.min_eq_left (by omega), Nat.max_eq_right (by omega)] at this
    cases hC : C j with
    | false => simp; omega
    | true =>
      have := lt_closed hc j hj hC i this
      rw [hi] at this; cases this

theorem Seq.slot_eq {C : Nat → Bool} (hc : Closed ops C) {i : Nat} {o : Oper} (ho : ops[i]? = some o) (hi : C i = false) (hr : ∀ e ∈ o.after, Region.binds .any e = true → C e.on = true) {t : Nat} (ht : t ∈ looks ops o) :
    (foldC ops S.x C (List.range ops.size) T0)[t]? = (S.Ts i)[t]? := by
  have hin := (Array.getElem?_eq_some_iff.1 ho).1
  rw [S.Ts_fold i (Nat.le_of_lt hin)]
  exact foldC_slot _ _ _ rfl rfl (fun j hj q hq hd => S.writers hok hc ho hi hr ht hq hd)

/-- i comes into C. -/
theorem Seq.slot_put {C : Nat → Bool} (hc : Closed ops C) {i : Nat} {o : Oper} (ho : ops[i]? = some o) (hi : C i = false) (hr : ∀ e ∈ o.after, Region.binds .any e = true → C e.on = true) (t : Nat) :
    (foldC ops S.x (fun k => if k = i then true else C k) (List.range ops.size) T0)[t]? = (putA (foldC ops S.x C (List.range ops.size) T0) o.dst (S.x i))[t]? := by
  have hin := (Array.getElem?_eq_some_iff.1 ho).1
  by_cases hd : o.dst = some t
  · have htl : t ∈ looks ops o := by unfold looks; simp [hd]
    by_cases hlt : t < T0.length
    · rw [hd, putA_get_self (by rw [foldC_length]; exact hlt)]
      have e : (foldC ops S.x (fun k => if k = i then true else C k) (List.range ops.size) T0)[t]? = (foldC ops S.x (fun k => decide (k < i + 1)) (List.range ops.size) T0)[t]? := by
        refine foldC_slot _ _ _ rfl rfl (fun j hj q hq hd' => ?_)
        by_cases hji : j = i
        · subst hji; simp
        · have := S.writers hok hc ho hi hr htl hq hd'
          simp only [hji, if_false, this]
          have : j < i ↔ j < i + 1 := by omega
          simp [this]
      rw [e, ← S.Ts_fold (i + 1) hin, S.next i o ho, hd]
      exact putA_get_self (by rw [S.Ts_fold i (by omega), foldC_length]; exact hlt)
    · rw [List.getElem?_eq_none (by rw [foldC_length]; omega), List.getElem?_eq_none (by rw [putA_length, foldC_length]; omega)]
  · rw [putA_get_ne hd]
    refine foldC_slot _ _ _ rfl rfl (fun j hj q hq hd' => ?_)
    have : j ≠ i := fun e => by subst e; rw [ho] at hq; cases hq; exact hd hd'
    simp [this]

end
end Go.Proofs.YtiipaliigpkfhaaGreat.Ab

/- Part 15: a region whose order is open, the theorem. -/
set_option linter.unusedVariables false
set_option linter.unusedSimpArgs false
namespace Go.Proofs.YtiipaliigpkfhaaGreat.Ab
open Go Go.RowKit

/-- Objects that say nothing of a label without a block. -/
def idle : AObj → Bool
  | .cells _ => true
  | .dead => true
  | _ => false

theorem owns_reserve {E : Env} {H res : AHeap} {w0 w : World} (g : Good E H w0 w) (hres : ∀ o ∈ res, idle o = true) {l b : Nat} (h : owns E (H ++ res) l b) : owns E H l b := by
  by_cases hl : l < H.length
  · unfold owns at h ⊢
    rwa [List.getElem?_append_left hl] at h
  · have hf := g.fresh (Nat.le_of_not_lt hl)
    unfold owns at h
    rw [List.getElem?_append_right (Nat.le_of_not_lt hl)] at h
    cases ho : res[l - H.length]? with
    | none => rw [ho] at h; exact h.elim
    | some o =>
      rw [ho] at h
      have := hres o (List.mem_of_getElem? ho)
      cases o with
      | cells cs => rw [hf.1] at h; cases h
      | dead => exact h.elim
      | tail n sz => simp [idle] at this
      | map es => simp [idle] at this
      | iter m => simp [idle] at this
      | mark k => simp [idle] at this

theorem Good.reserve {E : Env} {H : AHeap} {w0 w : World} (g : Good E H w0 w) (res : AHeap) (hres : ∀ o ∈ res, idle o = true) : Good E (H ++ res) w0 w := by
  refine ⟨g.below, fun h => g.snap h, fun {l o} h => ?_, fun {l l' b} h1 h2 => g.sep (owns_reserve g hres h1) (owns_reserve g hres h2), fun {l} h => g.fresh (by simp at h; omega), fun h => g.φlt h⟩
  by_cases hl : l < H.length
  · rw [List.getElem?_append_left hl] at h
    exact g.obj h
  · have hf := g.fresh (Nat.le_of_not_lt hl)
    rw [List.getElem?_append_right (Nat.le_of_not_lt hl)] at h
    have := hres o (List.mem_of_getElem? h)
    cases o with
    | cells cs => intro b hb; rw [hf.1] at hb; cases hb
    | dead => exact trivial
    | tail n sz => simp [idle] at this
    | map es => simp [idle] at this
    | iter m => simp [idle] at this
    | mark k => simp [idle] at this

theorem Ext.reserve {n0 : Nat} {W : Nat → Prop} {E : Env} {H res : AHeap} {w0 w : World} (g : Good E H w0 w) (hres : ∀ o ∈ res, idle o = true) (hn : n0 ≤ H.length) : Ext n0 W E H w E (H ++ res) w :=
  ⟨.refl E, Nat.le_refl _, by simp, fun {l} hl _ => List.getElem?_append_left (by omega), fun _ _ _ => rfl, fun _ => rfl, fun _ h => ⟨rfl, fun l ho => h l (owns_reserve g hres ho), fun _ => rfl⟩⟩

section
variable {P : Program} {ops : Array Oper} {T0 T' : List AV} {H0 H' : AHeap}

/-- The state under C. -/
structure Under (S : Seq P ops T0 H0 T' H') (H00 : AHeap) (C : Nat → Bool) (n0 : Nat) (W : Nat → Prop) (E0 : Env) (w00 w0 : World) (ds : List Deferred) (a : Act) (w : World) : Prop where
  ex : ∃ p E, p ≤ ops.size ∧ (∀ i, i < p → S.fl i = false → C i = true) ∧ (∀ i, p ≤ i → i < ops.size → S.fl i = false → C i = false) ∧
    Good E (S.Hs p) w0 w ∧ Ext n0 W E0 H00 w00 E (S.Hs p) w ∧ RelT E (foldC ops S.x C (List.range ops.size) T0) a.tmps ∧ ∀ i l, i < ops.size → C i = false → S.al i = some l → E.φ l = none
  ds : a.defers = ds

theorem relT_slots {E : Env} {T1 T2 : List AV} {tmps : Array Value} (h : RelT E T1 tmps) (hl : T2.length = T1.length) (hs : ∀ t : Nat, T2[t]? = T1[t]?) : RelT E T2 tmps :=
  ⟨by rw [h.1, hl], fun i x hx => h.2 i x (by rw [← hs i]; exact hx)⟩

/-- The labels that were kept. -/
structure Kept (S : Seq P ops T0 H0 T' H') (H00 : AHeap) : Prop where
  len : H00.length ≤ H0.length
  lo : ∀ i l, i < ops.size → S.al i = some l → H00.length ≤ l ∧ l < H0.length
  inj : ∀ i j l, i < ops.size → j < ops.size → S.al i = some l → S.al j = some l → i = j

theorem Seq.one (S : Seq P ops T0 H0 T' H') {H00 : AHeap} (hkp : Kept S H00) (hok : OrderOk ops S.fl S.rd S.alt S.Hs S.Wr H0) {C : Nat → Bool} (hc : Closed ops C) {n0 : Nat} {W : Nat → Prop} (hn0 : n0 ≤ H00.length) (hW : ∀ i l, S.fl i = false → l ∈ S.Wr i → l < n0 → W l) {E0 : Env} {w00 w0 : World} {ds : List Deferred} {a : Act} {w : World}
    (hu : Under S H00 C n0 W E0 w00 w0 ds a w) {i : Nat} {o : Oper} (ho : ops[i]? = some o) (hi : C i = false) (hr : ∀ e ∈ o.after, Region.binds .any e = true → C e.on = true) {Q : Exit → Act → World → Prop} {K : Act → World → Prop}
    (hK : ∀ a' w', Under S H00 (fun k => if k = i then true else C k) n0 W E0 w00 w0 ds a' w' → K a' w') : wpOp P ops Q i K a w := by
  obtain ⟨⟨p, E, hp, hp1, hp2, hg, hex, ht, hna⟩, hds⟩ := hu
  have hnot : ∀ j, (if j = i then true else C j) = false → j ≠ i ∧ C j = false := fun j h => by
    by_cases hji : j = i
    · simp [hji] at h
    · simp only [hji, if_false] at h; exact ⟨hji, h⟩
  have hin := (Array.getElem?_eq_some_iff.1 ho).1
  have hslot : ∀ t ∈ looks ops o, (foldC ops S.x C (List.range ops.size) T0)[t]? = (S.Ts i)[t]? := fun t htl => S.slot_eq hok hc ho hi hr htl
  have hput := S.slot_put hok hc ho hi hr
  have hlen : (foldC ops S.x (fun k => if k = i then true else C k) (List.range ops.size) T0).length = (putA (foldC ops S.x C (List.range ops.size) T0) o.dst (S.x i)).length := by rw [foldC_length, putA_length, foldC_length]
  have hrelo : RelO E (S.Ts i) o a.eval := fun q hq => by rw [← opdA_congr hslot hq]; exact opd_rel ht q
  unfold wpOp
  simp only [ho]
  rcases S.step i o ho with ⟨hw, hx, hf, hh⟩ | ⟨hw, hf, hh, hs⟩ | ⟨hw, hf, hs, hlen', hkeep⟩
  · -- not wanted
    rw [← wantedA_congr hslot] at hw
    rw [wanted_eq ht hw]
    simp only [Bool.false_eq_true, if_false]
    refine hK _ _ ⟨⟨p, E, hp, fun j hj hfj => ?_, fun j hj hjn hfj => ?_, hg, hex, ?_, fun j l hjn hj hl => hna j l hjn (hnot j hj).2 hl⟩, by rw [put_defers']; exact hds⟩
    · have : j ≠ i := fun e => by subst e; rw [hf] at hfj; cases hfj
      simp [this, hp1 j hj hfj]
    · have : j ≠ i := fun e => by subst e; rw [hf] at hfj; cases hfj
      simp [this, hp2 j hj hjn hfj]
    · refine relT_slots (put_rel ht o.dst (skip_rel _)) (by rw [hlen, hx]) (fun t => by rw [hput t, hx])
  · -- it changes nothing
    rw [← wantedA_congr hslot] at hw
    rw [wanted_eq ht hw]
    simp only [if_true]
    refine .inl ?_
    have hlab : ∀ l ∈ S.rd i, (S.Hs p)[l]? = (S.Hs i)[l]? ∨ ∃ ob, S.alt i l = some ob ∧ (S.Hs p)[l]? = some ob := by
      intro l hl
      have hlt := hok.known i l hin hl
      rcases Nat.lt_or_ge i p with hip | hip
      · have key : ∀ q, i ≤ q → q ≤ p → (S.Hs q)[l]? = (S.Hs i)[l]? ∨ ∃ ob, S.alt i l = some ob ∧ (S.Hs q)[l]? = some ob := by
          intro q
          induction q with
          | zero => intro h1 _; have : i = 0 := by omega
                    subst this; exact .inl rfl
          | succ q ih =>
            intro h1 h2
            rcases Nat.lt_or_ge q i with h | h
            · have : i = q + 1 := by omega
              subst this; exact .inl rfl
            · have hq : ops[q]? = some ops[q] := by simp [show q < ops.size by omega]
              have hprev := ih h (by omega)
              rcases S.step q _ hq with ⟨_, _, _, h4⟩ | ⟨_, _, h4, _⟩ | ⟨_, hfq, _, _, h5⟩
              · rw [h4]; exact hprev
              · rw [h4]; exact hprev
              · by_cases hm : l ∈ S.Wr q
                · have hiq : i ≠ q := fun e => by subst e; rw [hf] at hfq; cases hfq
                  rcases hok.behind i q l (by omega) (by omega) hf hfq hl hm with ho | ho
                  · have := lt_closed hc q (by omega) (hp1 q (by omega) hfq) i ho
                    rw [hi] at this; cases this
                  · exact .inr ho
                · rw [h5 l (Nat.lt_of_lt_of_le hlt (S.Hs_len q (by omega))) hm]; exact hprev
        exact key p (Nat.le_of_lt hip) (Nat.le_refl _)
      · refine .inl (S.Hs_label hlt i hip (by omega) (fun j h1 h2 h3 hm => ?_)).symm
        have := lt_ready hc ho hr j (hok.before i j l h2 hin hf h3 hl hm)
        rw [hp2 j h1 (by omega) h3] at this; cases this
    refine (hs (S.Hs p) hlab E w0 w a.eval hg (fun l hl => hna i l hin hi hl) hrelo).wp ?_
    rintro v w' ⟨E', hexF, hg', hx⟩
    refine hK _ _ ⟨⟨p, E', hp, fun j hj hfj => ?_, fun j hj hjn hfj => ?_, hg', hex.thenF hexF (fun l hl => (hkp.lo i l hin hl).1), ?_, fun j l hjn hj hl => ?_⟩, by rw [put_defers']; exact hds⟩
    · have : j ≠ i := fun e => by subst e; rw [hf] at hfj; cases hfj
      simp [this, hp1 j hj hfj]
    · have : j ≠ i := fun e => by subst e; rw [hf] at hfj; cases hfj
      simp [this, hp2 j hj hjn hfj]
    · exact relT_slots (put_rel (ht.mono hexF.le) o.dst hx) hlen hput
    · have hj' := hnot j hj
      rw [hexF.old (Nat.lt_of_lt_of_le (hkp.lo j l hjn hl).2 (S.Hs_len p hp)) (fun e => hj'.1 (hkp.inj j i l hjn hin hl e))]
      exact hna j l hjn hj'.2 hl
  · -- it acts
    rw [← wantedA_congr hslot] at hw
    rw [wanted_eq ht hw]
    simp only [if_true]
    refine .inl ?_
    have hpi : p ≤ i := by
      rcases Nat.lt_or_ge i p with h | h
      · have := hp1 i h hf
        rw [hi] at this; cases this
      · exact h
    have hbetween : ∀ j, p ≤ j → j < i → S.fl j = true := by
      intro j h1 h2
      cases hfj : S.fl j with
      | true => rfl
      | false =>
        have := hok.effects j i h2 hin hfj hf
        have := lt_ready hc ho hr j this
        rw [hp2 j h1 (by omega) hfj] at this; cases this
    have hHs : S.Hs i = S.Hs p := S.Hs_same i hpi (by omega) hbetween
    rw [hHs] at hs hkeep hlen'
    refine (hs E w0 w a.eval hg hrelo).wp ?_
    rintro v w' ⟨E', hex', hg', hx⟩
    refine hK _ _ ⟨⟨i + 1, E', hin, fun j hj hfj => ?_, fun j hj hjn hfj => ?_, hg', ?_, ?_, fun j l hjn hj hl => ?_⟩, by rw [put_defers']; exact hds⟩
    · by_cases hji : j = i
      · simp [hji]
      · rcases Nat.lt_or_ge j p with h | h
        · simp [hji, hp1 j h hfj]
        · have := hbetween j h (by omega)
          rw [hfj] at this; cases this
    · have : j ≠ i := by omega
      simp [this, hp2 j (by omega) hjn hfj]
    · refine hex.trans (hex'.weaken ?_ (fun l hl hm => hW i l hf hm hl))
      exact Nat.le_trans hn0 (Nat.le_trans hkp.len (S.Hs_len p hp))
    · exact relT_slots (put_rel (ht.mono hex'.le) o.dst hx) hlen hput
    · rw [hex'.old (Nat.lt_of_lt_of_le (hkp.lo j l hjn hl).2 (S.Hs_len p hp))]
      exact hna j l hjn (hnot j hj).2 hl

theorem Seq.any (S : Seq P ops T0 H0 T' H') {H00 : AHeap} (hkp : Kept S H00) (hok : OrderOk ops S.fl S.rd S.alt S.Hs S.Wr H0) {n0 : Nat} {W : Nat → Prop} (hn0 : n0 ≤ H00.length) (hW : ∀ i l, S.fl i = false → l ∈ S.Wr i → l < n0 → W l) {E0 : Env} {w00 w0 : World} {ds : List Deferred} {Q : Exit → Act → World → Prop}
    (hQ : ∀ (E' : Env) (a' : Act) (w' : World), Ext n0 W E0 H00 w00 E' H' w' → Good E' H' w0 w' → RelT E' T' a'.tmps → a'.defers = ds → Q .normal a' w') :
    ∀ (fuel : Nat) (listed : Array Bool) (a : Act) (w : World), listed.size = ops.size → ((List.range ops.size).filter fun i => !listed.getD i true).length = fuel → Closed ops (fun i => listed.getD i false) → Under S H00 (fun i => listed.getD i false) n0 W E0 w00 w0 ds a w → wpAny P .any ops Q fuel listed a w := by
  have getD_eq : ∀ (listed : Array Bool) (i : Nat), listed.size = ops.size → i < ops.size → listed.getD i true = listed.getD i false := by
    intro l i h hi
    simp [Array.getD_eq_getD_getElem?, h, hi]
  have done : ∀ (listed : Array Bool) (a : Act) (w : World), listed.size = ops.size → (∀ i, i < ops.size → listed.getD i false = true) → Under S H00 (fun i => listed.getD i false) n0 W E0 w00 w0 ds a w → Q .normal a w := by
    intro listed a w hsz hall hu
    obtain ⟨⟨p, E, hp, hp1, hp2, hg, hex, ht, _⟩, hds⟩ := hu
    have hH : S.Hs p = H' := by
      refine Eq.trans ?_ S.hn
      exact (S.Hs_same ops.size hp (Nat.le_refl _) (fun i h1 h2 => by
        cases hf : S.fl i with
        | true => rfl
        | false => have := hp2 i h1 h2 hf; rw [hall i h2] at this; cases this)).symm
    rw [hH] at hg hex
    refine hQ E a w hex hg ?_ hds
    have : foldC ops S.x (fun i => listed.getD i false) (List.range ops.size) T0 = T' := by
      refine Eq.trans ?_ ((S.Ts_fold ops.size (Nat.le_refl _)).symm.trans S.tn)
      exact foldC_congr _ _ _ _ _ (fun i hi => by simp at hi; simp [hall i hi, hi])
    rwa [this] at ht
  -- if nothing may come, all has come
  have allof : ∀ (listed : Array Bool), listed.size = ops.size → Region.ready .any ops listed = [] → ∀ i, i < ops.size → listed.getD i false = true := by
    intro listed hsz hre i
    induction i using Nat.strongRecOn with
    | _ i ih =>
      intro hin
      cases hl : listed.getD i false with
      | true => rfl
      | false =>
        have ho : ops[i]? = some ops[i] := by simp [hin]
        have : i ∈ Region.ready .any ops listed := by
          rw [mem_ready]
          refine ⟨by rw [getD_eq listed i hsz hin]; exact hl, ops[i], ho, fun e he hb => ?_⟩
          have := hok.edges i _ ho e he hb
          exact ih e.on this (by omega)
        rw [hre] at this
        cases this
  intro fuel
  induction fuel with
  | zero =>
    intro listed a w hsz hcount hc hu
    have hall : ∀ i, i < ops.size → listed.getD i false = true := by
      intro i hi
      have hnil : ((List.range ops.size).filter fun i => !listed.getD i true) = [] := List.length_eq_zero_iff.1 hcount
      have := List.filter_eq_nil_iff.1 hnil i (by simp [hi])
      rw [← getD_eq listed i hsz hi]
      simpa using this
    refine ⟨?_, done listed a w hsz hall hu⟩
    unfold Region.ready
    rw [List.filter_eq_nil_iff]
    intro i hi
    simp only [List.mem_range] at hi
    rw [getD_eq listed i hsz hi, hall i hi]
    simp
  | succ fuel ih =>
    intro listed a w hsz hcount hc hu
    refine ⟨fun hre => done listed a w hsz (allof listed hsz hre) hu, fun i hi => ?_⟩
    obtain ⟨hun, o, ho, hr⟩ := mem_ready.1 hi
    have hin := (Array.getElem?_eq_some_iff.1 ho).1
    rw [getD_eq listed i hsz hin] at hun
    have hset : ∀ k, (listed.setIfInBounds i true).getD k false = (fun k => if k = i then true else listed.getD k false) k := by
      intro k
      by_cases hk : k = i
      · subst hk
        simp [Array.getD_eq_getD_getElem?, hsz, hin]
      · simp [Array.getD_eq_getD_getElem?, Array.getElem?_setIfInBounds_ne (Ne.symm hk), hk]
    refine S.one hkp hok hc hn0 hW hu ho hun (fun e he hb => hr e he hb) (fun a' w' hu' => ?_)
    refine ih _ a' w' (by simpa using hsz) ?_ ?_ ?_
    · -- one fewer
      have hcnt : ∀ (l : List Nat), i ∈ l → l.Nodup → (l.filter fun k => !(listed.setIfInBounds i true).getD k true).length + 1 = (l.filter fun k => !listed.getD k true).length := by
        intro l
        induction l with
        | nil => intro h; cases h
        | cons k r ihr =>
          intro hm hnd
          have hset' : ∀ k, k ≠ i → (listed.setIfInBounds i true).getD k true = listed.getD k true := fun k hk => by
            simp [Array.getD_eq_getD_getElem?, Array.getElem?_setIfInBounds_ne (Ne.symm hk)]
          have hself : (listed.setIfInBounds i true).getD i true = true := by simp [Array.getD_eq_getD_getElem?, hsz, hin]
          rw [List.nodup_cons] at hnd
          by_cases hki : k = i
          · subst hki
            have hun' : listed.getD k true = false := by rw [getD_eq listed k hsz hin]; exact hun
            rw [List.filter_cons_of_neg (by simp [hself]), List.filter_cons_of_pos (by simp [hun'])]
            rw [List.length_cons]
            congr 2
            refine List.filter_congr (fun j hj => ?_)
            rw [hset' j (fun e => hnd.1 (e ▸ hj))]
          · have hmr : i ∈ r := by
              rcases List.mem_cons.1 hm with h | h
              · exact absurd h.symm hki
              · exact h
            rw [List.filter_cons, List.filter_cons, hset' k hki]
            split
            · rw [List.length_cons, List.length_cons, ihr hmr hnd.2]
            · exact ihr hmr hnd.2
      have := hcnt (List.range ops.size) (by simp [hin]) List.nodup_range
      omega
    · intro b q hq hb e he hbi
      have hb := (hset b).symm.trans hb
      refine (hset e.on).trans ?_
      by_cases hbi' : b = i
      · subst hbi'
        rw [ho] at hq; cases hq
        have := hr e he hbi
        dsimp only
        split
        · rfl
        · exact this
      · simp only [hbi', if_false] at hb
        have := hc b q hq hb e he hbi
        dsimp only
        split
        · rfl
        · exact this
    · have e : (fun k => (listed.setIfInBounds i true).getD k false) = (fun k => if k = i then true else listed.getD k false) := funext hset
      rw [e]
      exact hu'

/-- **A region whose order is open.** -/
theorem any_draw {n0 : Nat} {W : Nat → Prop} {Q : AExit → List AV → AHeap → Prop} {H00 : AHeap} {res : List AObj} (S : Seq P ops T0 H0 T' H') (hkp : Kept S H00) (hH : H0 = H00 ++ res) (hres : ∀ o ∈ res, idle o = true) (hok : OrderOk ops S.fl S.rd S.alt S.Hs S.Wr H0) (hW : ∀ i l, S.fl i = false → l ∈ S.Wr i → l < n0 → W l) (h : Q .normal T' H') :
    ∀ (E : Env) (w0 w : World) (a : Act) (D : List Deferred), n0 ≤ H00.length → Good E H00 w0 w → RelT E T0 a.tmps → a.defers = D → wpAny P .any ops (PostA n0 W Q E H00 w0 w D) ops.size (Array.replicate ops.size false) a { w with drawn := w.drawn + 1 } := by
  intro E w0 w a D hn hg ht hd
  have e : ∀ i, (Array.replicate ops.size false).getD i false = false := by
    intro i
    simp only [Array.getD_eq_getD_getElem?, Array.getElem?_replicate]
    split <;> rfl
  refine S.any hkp hok hn hW (E0 := E) (w00 := w.drew) (w0 := w0) (ds := D) (fun E' a' w' hex hg' ht' hds => ?_) ops.size _ a _ (by simp) ?_ ?_ ?_
  · exact ⟨E', _, T', H', h, .normal, (drew_ext n0 W).trans hex, hg', ht', hds⟩
  · have : ((List.range ops.size).filter fun i => !(Array.replicate ops.size false).getD i true) = List.range ops.size := by
      rw [List.filter_eq_self]
      intro i hi
      simp only [List.mem_range] at hi
      simp [Array.getD_eq_getD_getElem?, hi]
    rw [this]; simp
  · intro b o _ hb
    have hb : false = true := (e b).symm.trans hb
    cases hb
  · refine ⟨⟨0, E, Nat.zero_le _, fun i hi => by omega, fun i _ _ _ => e i, ?_, ?_, ?_, fun i l hi _ hl => (hg.fresh (hkp.lo i l hi hl).1).1⟩, hd⟩
    · rw [S.h0, hH]; exact hg.drew.reserve res hres
    · rw [S.h0, hH]; exact .reserve hg.drew hres hn
    · rw [foldC_false _ _ _ _ (fun i _ => e i)]; exact ht

theorem wpA_draw {id n0 : Nat} {W : Nat → Prop} {Q : AExit → List AV → AHeap → Prop} {H00 : AHeap} {res : List AObj} (hm : P.follows .mixedOrders = true) (S : Seq P ops T0 H0 T' H') (hkp : Kept S H00) (hH : H0 = H00 ++ res) (hres : ∀ o ∈ res, idle o = true) (hok : OrderOk ops S.fl S.rd S.alt S.Hs S.Wr H0) (hW : ∀ i l, S.fl i = false → l ∈ S.Wr i → l < n0 → W l) (h : Q .normal T' H') :
    wpA P n0 W (.region id ops true) Q T0 H00 := fun E w0 w a D hn hg ht hd => wp_region_any hm (any_draw S hkp hH hres hok hW h E w0 w a D hn hg ht hd)
end
end Go.Proofs.YtiipaliigpkfhaaGreat.Ab

/- Part 16: what is to be shown of code, as one proposition that simp reckons out. -/
set_option linter.unusedVariables false
set_option linter.unusedSimpArgs false
namespace Go.Proofs.YtiipaliigpkfhaaGreat.Ab
open Go Go.RowKit

/-- Which label an operation reads. -/
def readL (o : Oper) (T : List AV) : Option Nat :=
  match o.op with
  | .load _ p => match opdA T p with
    | .ptr l _ => some l
    | _ => none
  | _ => none

theorem cellsOfA_label {H H2 : AHeap} {x : AV} (h : ∀ l o, x = .ptr l o → H2[l]? = H[l]?) : cellsOfA H2 x = cellsOfA H x := by
  cases x with
  | ptr l o => simp only [cellsOfA, h l o rfl]
  | _ => rfl

theorem stepS_label {P : Program} {o : Oper} {T : List AV} {H H2 : AHeap} (h : ∀ l, readL o T = some l → H2[l]? = H[l]?) : stepS P o T H2 = stepS P o T H := by
  unfold stepS
  cases ho : o.op with
  | load t p =>
    simp only
    rw [cellsOfA_label (fun l o' hx => h l (by unfold readL; rw [ho]; simp only [hx]))]
  | _ => rfl

def Keeps (H H' : AHeap) (Wr : List Nat) : Prop := H.length ≤ H'.length ∧ ∀ l, l < H.length → l ∉ Wr → H'[l]? = H[l]?

theorem Keeps.refl (H : AHeap) (Wr : List Nat) : Keeps H H Wr := ⟨Nat.le_refl _, fun _ _ _ => rfl⟩
theorem Keeps.push (H : AHeap) (o : AObj) : Keeps H (H ++ [o]) [] := ⟨by simp, fun l hl _ => List.getElem?_append_left hl⟩
theorem Keeps.set (H : AHeap) (l : Nat) (o : AObj) : Keeps H (H.set l o) [l] := ⟨by simp, fun k _ hm => List.getElem?_set_ne (fun e => hm (by simp [e]))⟩

theorem stepX_keeps {P : Program} {o : Oper} {T : List AV} {H H' : AHeap} {x : AV} {Wr : List Nat} (h : stepX P o T H = some (x, H', Wr)) : Keeps H H' Wr := by
  unfold stepX at h
  split at h
  · split at h
    · cases h; exact .push _ _
    · cases h
  · split at h
    · split at h
      · cases h; exact .push _ _
      · cases h
    · cases h
  · split at h
    · split at h
      · split at h
        · cases h; exact .set _ _ _
        · cases h
      · cases h
    · cases h
  · split at h
    · split at h
      · split at h
        · split at h
          · cases h; exact .refl _ _
          · cases h
        · cases h
      · cases h
    · cases h
  · split at h
    · split at h
      · cases h; exact .refl _ _
      · cases h
    · cases h
  · split at h
    · unfold appX at h
      split at h
      · split at h
        · split at h
          · cases h; exact .refl _ _
          · split at h
            · split at h
              · split at h
                · split at h
                  · cases h; exact .set _ _ _
                  · cases h
                · cases h
              · split at h
                · cases h; exact .push _ _
                · cases h
              · split at h
                · cases h; exact .push _ _
                · cases h
            · cases h
        · cases h
      · cases h
    · cases h
  · split at h
    · split at h
      · split at h
        · cases h; exact .push _ _
        · cases h
      · cases h
    · cases h
  · cases h

/-- A map's entry that is told softly: the map's label, its type, the key. -/
abbrev Soft := Option (Nat × TypeId × Value)
/-- What an operation looks at: labels; the label that was kept for it; the entry that it looks at or makes sure of. -/
structure Rd where
  labs : List Nat
  al : Option Nat
  soft : Soft
abbrev Log := List (Bool × Rd × List Nat)
def rd0 : Rd := ⟨[], none, none⟩
def rdS (s : Soft) : Rd := ⟨[], none, s⟩
def rdOf (o : Oper) (T : List AV) : Rd := ⟨(readL o T).toList, none, none⟩
/-- What stands where nothing stands. -/
def e0 : Bool × Rd × List Nat := (true, rd0, [])
/-- What making sure of an entry makes of a map. -/
abbrev Tr := TypeId → Value → AObj → Option AObj

inductive Chain (P : Program) (ops : Array Oper) (dr : Bool) (tr : Tr) : List Nat → List AV → AHeap → List AV → AHeap → Log → Prop where
  | nil (T : List AV) (H : AHeap) : Chain P ops dr tr [] T H T H []
  | skip {i : Nat} {rest : List Nat} {o : Oper} {T T' : List AV} {H H' : AHeap} {L : Log} (ho : ops[i]? = some o) (hw : wantedA ops T o = some false)
      (hr : Chain P ops dr tr rest (putA T o.dst skipA) H T' H' L) : Chain P ops dr tr (i :: rest) T H T' H' (e0 :: L)
  | float {i : Nat} {rest : List Nat} {o : Oper} {x : AV} {T T' : List AV} {H H' : AHeap} {L : Log} {rd : Rd} (ho : ops[i]? = some o) (hw : wantedA ops T o = some true)
      (hs : ∀ H2 : AHeap, (∀ l ∈ rd.labs, H2[l]? = H[l]? ∨ ∃ t k ob, rd.soft = some (l, t, k) ∧ (H[l]?).bind (tr t k) = some ob ∧ H2[l]? = some ob) → OpF P o T H2 x rd.al) (ha : dr = false → rd.al = none) (hr : Chain P ops dr tr rest (putA T o.dst x) H T' H' L) : Chain P ops dr tr (i :: rest) T H T' H' ((true, rd, []) :: L)
  | act {i : Nat} {rest : List Nat} {o : Oper} {x : AV} {T T' : List AV} {H H1 H' : AHeap} {L : Log} {Wr : List Nat} {sf : Soft} (ho : ops[i]? = some o) (hw : wantedA ops T o = some true)
      (hs : OpA P o T H x H1 Wr) (hk : Keeps H H1 Wr) (hsf : ∀ l t k, sf = some (l, t, k) → ∃ ob, (H[l]?).bind (tr t k) = some ob ∧ H1[l]? = some ob) (hr : Chain P ops dr tr rest (putA T o.dst x) H1 T' H' L) : Chain P ops dr tr (i :: rest) T H T' H' ((false, rdS sf, Wr) :: L)

def wrs : Log → List Nat
  | [] => []
  | (_, _, W) :: L => W ++ wrs L

theorem Chain.run {P : Program} {ops : Array Oper} {tr : Tr} {is : List Nat} {T T' : List AV} {H H' : AHeap} {L : Log} (h : Chain P ops false tr is T H T' H' L) : RunA P ops is T H T' H' (wrs L) := by
  induction h with
  | nil T H => exact .nil T H
  | skip ho hw hr ih => exact .skip ho hw ih
  | float ho hw hs ha hr ih =>
    refine .step ho hw (OpF.a ?_) ih
    have := hs _ (fun _ _ => .inl rfl)
    rwa [ha rfl] at this
  | act ho hw hs hk hsf hr ih => exact .step ho hw hs ih

/-- What the order of the text gives, from a place on. -/
theorem stepS_float {P : Program} {tr : Tr} {o : Oper} {T : List AV} {H : AHeap} {x : AV} (hs : stepS P o T H = some x) : ∀ H2 : AHeap, (∀ l ∈ (rdOf o T).labs, H2[l]? = H[l]? ∨ ∃ t k ob, (rdOf o T).soft = some (l, t, k) ∧ (H[l]?).bind (tr t k) = some ob ∧ H2[l]? = some ob) → OpF P o T H2 x (rdOf o T).al :=
  fun H2 h => (stepS_sound ((stepS_label (fun l hl => (h l (by simp [rdOf, hl])).elim id (fun ⟨_, _, _, e, _⟩ => by simp [rdOf] at e))).trans hs)).a.f

theorem Chain.seq {P : Program} {ops : Array Oper} {dr : Bool} {tr : Tr} {T' : List AV} {H' : AHeap} : ∀ (n k : Nat) (T : List AV) (H : AHeap) (L : Log), Chain P ops dr tr ((List.range n).map (k + ·)) T H T' H' L → k + n = ops.size →
    ∃ (Ts : Nat → List AV) (Hs : Nat → AHeap) (x : Nat → AV), Ts k = T ∧ Hs k = H ∧ Ts ops.size = T' ∧ Hs ops.size = H' ∧ L.length = n ∧
      ∀ i o, k ≤ i → ops[i]? = some o → Ts (i + 1) = putA (Ts i) o.dst (x i) ∧
        ((wantedA ops (Ts i) o = some false ∧ x i = skipA ∧ (L.getD (i - k) e0).1 = true ∧ Hs (i + 1) = Hs i) ∨
        (wantedA ops (Ts i) o = some true ∧ (L.getD (i - k) e0).1 = true ∧ Hs (i + 1) = Hs i ∧ ∀ H2 : AHeap, (∀ l ∈ (L.getD (i - k) e0).2.1.labs, H2[l]? = (Hs i)[l]? ∨ ∃ t k' ob, (L.getD (i - k) e0).2.1.soft = some (l, t, k') ∧ ((Hs i)[l]?).bind (tr t k') = some ob ∧ H2[l]? = some ob) → OpF P o (Ts i) H2 (x i) (L.getD (i - k) e0).2.1.al) ∨
        (wantedA ops (Ts i) o = some true ∧ (L.getD (i - k) e0).1 = false ∧ OpA P o (Ts i) (Hs i) (x i) (Hs (i + 1)) (L.getD (i - k) e0).2.2 ∧ Keeps (Hs i) (Hs (i + 1)) (L.getD (i - k) e0).2.2 ∧ ∀ l t k', (L.getD (i - k) e0).2.1.soft = some (l, t, k') → ∃ ob, ((Hs i)[l]?).bind (tr t k') = some ob ∧ (Hs (i + 1))[l]? = some ob)) := by
  intro n
  induction n with
  | zero =>
    intro k T H L h hk
    simp only [List.range_zero, List.map_nil] at h
    cases h
    have hk' : k = ops.size := by omega
    subst hk'
    exact ⟨fun _ => T', fun _ => H', fun _ => .any, rfl, rfl, rfl, rfl, rfl, fun i o hi ho => by have := (Array.getElem?_eq_some_iff.1 ho).1; omega⟩
  | succ n ih =>
    intro k T H L h hk
    have hr : (List.range (n + 1)).map (k + ·) = k :: (List.range n).map (k + 1 + ·) := by
      rw [List.range_succ_eq_map]
      simp only [List.map_cons, List.map_map, Nat.add_zero]
      congr 1
      refine List.map_congr_left (fun a _ => ?_)
      simp only [Function.comp]
      omega
    rw [hr] at h
    have build : ∀ (o : Oper) (y : AV) (H1 : AHeap) (e : Bool × Rd × List Nat) (L1 : Log), ops[k]? = some o → Chain P ops dr tr ((List.range n).map (k + 1 + ·)) (putA T o.dst y) H1 T' H' L1 →
        ((wantedA ops T o = some false ∧ y = skipA ∧ e.1 = true ∧ H1 = H) ∨
        (wantedA ops T o = some true ∧ e.1 = true ∧ H1 = H ∧ ∀ H2 : AHeap, (∀ l ∈ e.2.1.labs, H2[l]? = H[l]? ∨ ∃ t k' ob, e.2.1.soft = some (l, t, k') ∧ (H[l]?).bind (tr t k') = some ob ∧ H2[l]? = some ob) → OpF P o T H2 y e.2.1.al) ∨
        (wantedA ops T o = some true ∧ e.1 = false ∧ OpA P o T H y H1 e.2.2 ∧ Keeps H H1 e.2.2 ∧ ∀ l t k', e.2.1.soft = some (l, t, k') → ∃ ob, (H[l]?).bind (tr t k') = some ob ∧ H1[l]? = some ob)) → L = e :: L1 →
        ∃ (Ts : Nat → List AV) (Hs : Nat → AHeap) (x : Nat → AV), Ts k = T ∧ Hs k = H ∧ Ts ops.size = T' ∧ Hs ops.size = H' ∧ L.length = n + 1 ∧
          ∀ i o, k ≤ i → ops[i]? = some o → Ts (i + 1) = putA (Ts i) o.dst (x i) ∧
          ((wantedA ops (Ts i) o = some false ∧ x i = skipA ∧ (L.getD (i - k) e0).1 = true ∧ Hs (i + 1) = Hs i) ∨
          (wantedA ops (Ts i) o = some true ∧ (L.getD (i - k) e0).1 = true ∧ Hs (i + 1) = Hs i ∧ ∀ H2 : AHeap, (∀ l ∈ (L.getD (i - k) e0).2.1.labs, H2[l]? = (Hs i)[l]? ∨ ∃ t k' ob, (L.getD (i - k) e0).2.1.soft = some (l, t, k') ∧ ((Hs i)[l]?).bind (tr t k') = some ob ∧ H2[l]? = some ob) → OpF P o (Ts i) H2 (x i) (L.getD (i - k) e0).2.1.al) ∨
          (wantedA ops (Ts i) o = some true ∧ (L.getD (i - k) e0).1 = false ∧ OpA P o (Ts i) (Hs i) (x i) (Hs (i + 1)) (L.getD (i - k) e0).2.2 ∧ Keeps (Hs i) (Hs (i + 1)) (L.getD (i - k) e0).2.2 ∧ ∀ l t k', (L.getD (i - k) e0).2.1.soft = some (l, t, k') → ∃ ob, ((Hs i)[l]?).bind (tr t k') = some ob ∧ (Hs (i + 1))[l]? = some ob)) := by
      intro o y H1 e L1 ho hc hst hL
      subst hL
      obtain ⟨Ts, Hs, x, h1, h2, h3, h4, h5, h6⟩ := ih (k + 1) _ _ _ hc (by omega)
      refine ⟨fun i => if i = k then T else Ts i, fun i => if i = k then H else Hs i, fun i => if i = k then y else x i, by simp, by simp, ?_, ?_, by simp [h5], fun i q hi hq => ?_⟩
      · exact (if_neg (by omega)).trans h3
      · exact (if_neg (by omega)).trans h4
      · dsimp only
        by_cases hik : i = k
        · subst hik
          rw [ho] at hq
          cases hq
          rw [if_pos rfl, if_neg (by omega : ¬ i + 1 = i), if_neg (by omega : ¬ i + 1 = i), if_pos rfl, if_pos rfl, h1, h2, Nat.sub_self, List.getD_cons_zero]
          exact ⟨rfl, hst⟩
        · have := h6 i q (by omega) hq
          rw [if_neg hik, if_neg (by omega : ¬ i + 1 = k), if_neg (by omega : ¬ i + 1 = k), if_neg hik, if_neg hik]
          rw [show i - k = (i - (k + 1)) + 1 by omega, List.getD_cons_succ]
          exact this
    cases h with
    | skip ho hw hr' => exact build _ skipA H _ _ ho hr' (.inl ⟨hw, rfl, rfl, rfl⟩) rfl
    | @float _ _ o x _ _ _ _ _ _ ho hw hs ha hr' =>
      exact build _ x H _ _ ho hr' (.inr (.inl ⟨hw, rfl, rfl, hs⟩)) rfl
    | @act _ _ o x _ _ _ H1 _ _ Wr sf ho hw hs hk hsf hr' => exact build _ x H1 _ _ ho hr' (.inr (.inr ⟨hw, rfl, hs, hk, hsf⟩)) rfl

/-! ### Keys that are known -/
def samePlain : Value → Value → Bool
  | .bool x, .bool y => x == y
  | .int k x, .int l y => decide (k = l) && decide (x = y)
  | .string s, .string t => decide (s = t)
  | .nilFunc, .nilFunc => true
  | .nilIface, .nilIface => true
  | .pointer none, .pointer none => true
  | .map none, .map none => true
  | .chan none, .chan none => true
  | _, _ => false

theorem samePlain_eq {a b : Value} (h : samePlain a b = true) : a = b ∧ plain b = true := by
  unfold samePlain at h
  split at h <;> simp_all [plain]

def sameL : List Value → List Value → Bool
  | [], [] => true
  | x :: r, y :: s => samePlain x y && sameL r s
  | _, _ => false
theorem sameL_eq : ∀ {a b : List Value}, sameL a b = true → a = b
  | [], [], _ => rfl
  | [], _ :: _, h => by simp [sameL] at h
  | _ :: _, [], h => by simp [sameL] at h
  | x :: r, y :: s, h => by
    simp only [sameL, Bool.and_eq_true] at h
    rw [(samePlain_eq h.1).1, sameL_eq h.2]
def sameKey : Value → Value → Bool
  | .agg x, .agg y => sameL x.toList y.toList
  | x, y => samePlain x y
theorem sameKey_eq {a b : Value} (h : sameKey a b = true) : a = b := by
  unfold sameKey at h
  split at h
  · rw [Array.ext' (sameL_eq h)]
  · exact (samePlain_eq h).1

/-! ### The order's conditions, reckoned -/
def als (L : Log) : List Nat := L.filterMap fun e => e.2.1.al
def nodupB : List Nat → Bool
  | [] => true
  | x :: r => !(r.contains x) && nodupB r

theorem als_mem {L : Log} {i l : Nat} (h : (L.getD i e0).2.1.al = some l) : l ∈ als L := by
  unfold als
  rw [List.mem_filterMap]
  by_cases hi : i < L.length
  · exact ⟨L.getD i e0, by simp [List.getD_eq_getElem?_getD, hi], h⟩
  · rw [List.getD_eq_getElem?_getD, List.getElem?_eq_none (Nat.le_of_not_lt hi)] at h
    simp [e0, rd0] at h

theorem als_inj : ∀ (L : Log) (i j l : Nat), nodupB (als L) = true → (L.getD i e0).2.1.al = some l → (L.getD j e0).2.1.al = some l → i = j
  | [], i, j, l, _, h, _ => by simp [e0, rd0] at h
  | e :: r, i, j, l, hn, h1, h2 => by
    have hr : nodupB (als r) = true := by
      cases he : e.2.1.al with
      | none => simpa [als, he] using hn
      | some m =>
        have : als (e :: r) = m :: als r := by simp [als, he]
        rw [this] at hn
        simp only [nodupB, Bool.and_eq_true] at hn
        exact hn.2
    have no : e.2.1.al = some l → ∀ k, (r.getD k e0).2.1.al = some l → False := by
      intro he k hk
      have : als (e :: r) = l :: als r := by simp [als, he]
      rw [this] at hn
      simp only [nodupB, Bool.and_eq_true] at hn
      have hm := als_mem hk
      simp [hm] at hn
    cases i with
    | zero =>
      cases j with
      | zero => rfl
      | succ j => exact (no h1 j h2).elim
    | succ i =>
      cases j with
      | zero => exact (no h2 i h1).elim
      | succ j => rw [als_inj r i j l hr h1 h2]

def slotsOk (ops : Array Oper) (M : List Nat) : Bool :=
  (List.range ops.size).all fun i => match ops[i]? with
    | some o => (List.range ops.size).all fun j => match ops[j]? with
      | some q => match q.dst with
        | some t => i == j || !(looks ops o).contains t || lt M (min i j) (max i j)
        | none => true
      | none => true
    | none => true

/-- Before j the label is not written from i on, and j makes sure of the entry that i looks at. -/
def softOk (L : Log) (i j l : Nat) : Bool :=
  match (L.getD i e0).2.1.soft, (L.getD j e0).2.1.soft with
  | some (l1, t1, k1), some (l2, t2, k2) => decide (l1 = l) && decide (l2 = l) && decide (t1 = t2) && sameKey k1 k2 && (List.range j).all fun m => decide (m < i) || (L.getD m e0).1 || !((L.getD m e0).2.2.contains l)
  | _, _ => false

def pairsOk (n : Nat) (M : List Nat) (L : Log) : Bool :=
  (List.range n).all fun i => (List.range n).all fun j =>
    let a := L.getD i e0
    let b := L.getD j e0
    (!(decide (i < j) && !a.1 && !b.1) || lt M i j) && (!(a.1 && !b.1) || a.2.1.labs.all fun l => !(b.2.2.contains l) || (if j < i then lt M j i else lt M i j || softOk L i j l))

def edgesOk (ops : Array Oper) : Bool :=
  (List.range ops.size).all fun i => match ops[i]? with
    | some o => o.after.toList.all fun e => !(Region.binds .any e) || decide (e.on < i)
    | none => true

/-- n: how many labels there were; m: with those that are kept. -/
def drawOk (ops : Array Oper) (n m : Nat) (L : Log) : Bool :=
  let M := masks ops
  slotsOk ops M && pairsOk ops.size M L && edgesOk ops && nodupB (als L) && (als L).all (fun l => decide (n ≤ l) && decide (l < m)) && L.all fun e => e.2.1.labs.all fun l => decide (l < m)

/-- What a soft entry becomes. -/
def altOf (tr : Tr) (L : Log) (Hs : Nat → AHeap) (i l : Nat) : Option AObj :=
  match (L.getD i e0).2.1.soft with
  | some (l1, t, k) => if l1 = l then ((Hs i)[l]?).bind (tr t k) else none
  | none => none

theorem drawOk_order {ops : Array Oper} {L : Log} {H0 : AHeap} {n : Nat} {tr : Tr} {Hs : Nat → AHeap} (hl : L.length = ops.size) (h : drawOk ops n H0.length L = true)
    (hsoft : ∀ j, j < ops.size → (L.getD j e0).1 = false → ∀ l t k, (L.getD j e0).2.1.soft = some (l, t, k) → ∃ ob, ((Hs j)[l]?).bind (tr t k) = some ob ∧ (Hs (j + 1))[l]? = some ob)
    (hsame : ∀ i j l, i ≤ j → j ≤ ops.size → l < H0.length → (∀ m, i ≤ m → m < j → (L.getD m e0).1 = false → l ∉ (L.getD m e0).2.2) → (Hs j)[l]? = (Hs i)[l]?) :
    OrderOk ops (fun i => (L.getD i e0).1) (fun i => (L.getD i e0).2.1.labs) (altOf tr L Hs) Hs (fun i => (L.getD i e0).2.2) H0 := by
  unfold drawOk at h
  simp only [Bool.and_eq_true] at h
  obtain ⟨⟨⟨⟨⟨h1, h2⟩, h3⟩, _⟩, _⟩, hr⟩ := h
  have hknown : ∀ i l, i < ops.size → l ∈ (L.getD i e0).2.1.labs → l < H0.length := by
    intro i l hi hrd
    rw [List.all_eq_true] at hr
    have hil : i < L.length := by omega
    have := hr (L.getD i e0) (by simp [List.getD_eq_getElem?_getD, hil])
    rw [List.all_eq_true] at this
    simpa using this l hrd
  unfold pairsOk at h2
  rw [List.all_eq_true] at h2
  have hpair : ∀ i j, i < ops.size → j < ops.size → (L.getD i e0).1 = true → (L.getD j e0).1 = false → ∀ l, l ∈ (L.getD i e0).2.1.labs → l ∈ (L.getD j e0).2.2 → (if j < i then lt (masks ops) j i else lt (masks ops) i j || softOk L i j l) = true := by
    intro i j hi hj hfi hfj l hrd hm
    have := h2 i (by simp [hi])
    rw [List.all_eq_true] at this
    have := this j (by simp [hj])
    simp only [Bool.and_eq_true] at this
    have := this.2
    rw [hfi, hfj] at this
    simp only [Bool.not_false, Bool.and_self, Bool.not_true, Bool.false_or, List.all_eq_true] at this
    have := this l hrd
    have hc : (L.getD j e0).2.2.contains l = true := by simpa using hm
    rw [hc] at this
    simpa using this
  refine ⟨fun i o ho t ht j q hq hd hji => ?_, fun i j hij hj hfi hfj => ?_, fun i j l hji hi hfi hfj hrd hm => ?_, fun i j l hij hj hfi hfj hrd hm => ?_, fun i l hi hrd => hknown i l hi hrd, fun i o ho e he hbi => ?_⟩
  · unfold slotsOk at h1
    rw [List.all_eq_true] at h1
    have hi := (Array.getElem?_eq_some_iff.1 ho).1
    have hj := (Array.getElem?_eq_some_iff.1 hq).1
    have := h1 i (by simp [hi])
    rw [ho] at this
    simp only [List.all_eq_true] at this
    have := this j (by simp [hj])
    rw [hq] at this
    simp only [hd] at this
    have ht' : (looks ops o).contains t = true := by simpa using ht
    rw [ht'] at this
    simp only [Bool.not_true, Bool.or_false, Bool.or_eq_true, beq_iff_eq] at this
    exact this.resolve_left (fun e => hji e.symm)
  · have := h2 i (by simp; omega)
    rw [List.all_eq_true] at this
    have := this j (by simp [hj])
    simp only [Bool.and_eq_true] at this
    have := this.1
    rw [hfi, hfj] at this
    simpa [hij] using this
  · have := hpair i j hi (by omega) hfi hfj l hrd hm
    rwa [if_pos hji] at this
  · have := hpair i j (by omega) hj hfi hfj l hrd hm
    rw [if_neg (by omega), Bool.or_eq_true] at this
    rcases this with h | h
    · exact .inl h
    · refine .inr ?_
      unfold softOk at h
      split at h
      · rename_i l1 t1 k1 l2 t2 k2 hs1 hs2
        simp only [Bool.and_eq_true, decide_eq_true_eq, List.all_eq_true] at h
        obtain ⟨⟨⟨⟨e1, e2⟩, e3⟩, hk⟩, hno⟩ := h
        have e1' := e1.symm
        have e2' := e2.symm
        subst e1'
        subst e2'
        subst e3
        have hk' := sameKey_eq hk
        subst hk'
        obtain ⟨ob, ho1, ho2⟩ := hsoft j hj hfj _ _ _ hs2
        have hsm := hsame i j l (by omega) (by omega) (hknown i l (by omega) hrd) (fun m h1 h2 h3 hm => by
          have := hno m (by simp [h2])
          rw [h3] at this
          have hc : (L.getD m e0).2.2.contains l = true := by simpa using hm
          rw [hc] at this
          simp at this
          omega)
        refine ⟨ob, ?_, ho2⟩
        unfold altOf
        rw [hs1]
        simp only [if_true]
        rw [← hsm]
        exact ho1
      · cases h
  · unfold edgesOk at h3
    rw [List.all_eq_true] at h3
    have hi := (Array.getElem?_eq_some_iff.1 ho).1
    have := h3 i (by simp [hi])
    rw [ho] at this
    simp only [List.all_eq_true] at this
    have := this e (by simpa using he)
    rw [hbi] at this
    simpa using this

theorem mem_wrs {L : Log} {i l : Nat} (h : l ∈ (L.getD i e0).2.2) : l ∈ wrs L := by
  induction L generalizing i with
  | nil => simp [e0] at h
  | cons e r ih =>
    obtain ⟨a, b, W⟩ := e
    cases i with
    | zero => simp at h; simp [wrs, h]
    | succ i => rw [List.getD_cons_succ] at h; simp [wrs, ih h]

section
variable {P : Program} {n0 : Nat} {W : Nat → Prop} {Q : AExit → List AV → AHeap → Prop} {T : List AV} {H : AHeap}

theorem wpA_chain {id : Nat} {ops : Array Oper} {tr : Tr} {T' : List AV} {H' : AHeap} {L : Log} (hc : Chain P ops false tr (List.range ops.size) T H T' H' L) (hW : ∀ l ∈ wrs L, l < n0 → W l) (h : Q .normal T' H') : wpA P n0 W (.region id ops false) Q T H :=
  wpA_region hc.run hW h

theorem chain_any {ops : Array Oper} {tr : Tr} {T' : List AV} {H' : AHeap} {L : Log} {res : AHeap} (hres : ∀ o ∈ res, idle o = true) (hc : Chain P ops true tr (List.range ops.size) T (H ++ res) T' H' L) (hW : ∀ l ∈ wrs L, l < n0 → W l) (hd : drawOk ops H.length (H ++ res).length L = true)
    (h : Q .normal T' H') : ∀ (E : Env) (w0 w : World) (a : Act) (D : List Deferred), n0 ≤ H.length → Good E H w0 w → RelT E T a.tmps → a.defers = D → wpAny P .any ops (PostA n0 W Q E H w0 w D) ops.size (Array.replicate ops.size false) a { w with drawn := w.drawn + 1 } := by
  have hc' : Chain P ops true tr ((List.range ops.size).map (0 + ·)) T (H ++ res) T' H' L := by
    have : (List.range ops.size).map (0 + ·) = List.range ops.size := by simp
    rw [this]; exact hc
  obtain ⟨Ts, Hs, x, h1, h2, h3, h4, h5, h6⟩ := hc'.seq ops.size 0 T (H ++ res) L (by omega)
  let S : Seq P ops T (H ++ res) T' H' :=
    { Ts, Hs, x, fl := fun i => (L.getD i e0).1, rd := fun i => (L.getD i e0).2.1.labs, alt := altOf tr L Hs, al := fun i => (L.getD i e0).2.1.al, Wr := fun i => (L.getD i e0).2.2, t0 := h1, h0 := h2, tn := h3, hn := h4
      next := fun i o ho => (h6 i o (Nat.zero_le _) ho).1
      step := fun i o ho => by
        have := (h6 i o (Nat.zero_le _) ho).2
        rw [Nat.sub_zero] at this
        rcases this with h | h | ⟨ha, hb, hc, hd⟩
        · exact .inl h
        · refine .inr (.inl ⟨h.1, h.2.1, h.2.2.1, fun H2 hh => h.2.2.2 H2 (fun l hl => ?_)⟩)
          rcases hh l hl with e | ⟨ob, e1, e2⟩
          · exact .inl e
          · refine .inr ?_
            unfold altOf at e1
            split at e1
            · rename_i l1 t k hs
              split at e1
              · rename_i hll
                subst hll
                exact ⟨t, k, ob, hs, e1, e2⟩
              · cases e1
            · cases e1
        · exact .inr (.inr ⟨ha, hb, hc, hd.1.1, hd.1.2⟩) }
  have hsoft : ∀ j, j < ops.size → (L.getD j e0).1 = false → ∀ l t k, (L.getD j e0).2.1.soft = some (l, t, k) → ∃ ob, ((Hs j)[l]?).bind (tr t k) = some ob ∧ (Hs (j + 1))[l]? = some ob := by
    intro j hj hf l t k hs
    have ho : ops[j]? = some ops[j] := by simp [hj]
    have := (h6 j _ (Nat.zero_le _) ho).2
    rw [Nat.sub_zero] at this
    rcases this with h | h | ⟨_, _, _, hd⟩
    · rw [h.2.2.1] at hf; cases hf
    · rw [h.2.1] at hf; cases hf
    · exact hd.2 l t k hs
  have hsame : ∀ i j l, i ≤ j → j ≤ ops.size → l < (H ++ res).length → (∀ m, i ≤ m → m < j → (L.getD m e0).1 = false → l ∉ (L.getD m e0).2.2) → (Hs j)[l]? = (Hs i)[l]? :=
    fun i j l hij hj hll hno => S.Hs_label hll j hij hj hno
  have hd' := hd
  unfold drawOk at hd'
  simp only [Bool.and_eq_true] at hd'
  obtain ⟨⟨⟨_, hnd⟩, hal⟩, _⟩ := hd'
  rw [List.all_eq_true] at hal
  have hkp : Kept S H := ⟨by simp, fun i l hi hl => by
    have := hal l (als_mem hl)
    simp only [Bool.and_eq_true, decide_eq_true_eq] at this
    exact this, fun i j l hi hj h1 h2 => als_inj L i j l hnd h1 h2⟩
  exact any_draw S hkp rfl hres (drawOk_order h5 hd hsoft hsame) (fun i l _ hl hn => hW l (mem_wrs hl) hn) h

theorem wpA_chain_draw {id : Nat} {ops : Array Oper} {tr : Tr} {T' : List AV} {H' : AHeap} {L : Log} {res : AHeap} (hm : P.follows .mixedOrders = true) (hres : ∀ o ∈ res, idle o = true) (hc : Chain P ops true tr (List.range ops.size) T (H ++ res) T' H' L) (hW : ∀ l ∈ wrs L, l < n0 → W l) (hdr : drawOk ops H.length (H ++ res).length L = true)
    (h : Q .normal T' H') : wpA P n0 W (.region id ops true) Q T H := fun E w0 w a D hn hg ht hd => wp_region_any hm (chain_any hres hc hW hdr h E w0 w a D hn hg ht hd)
end
end Go.Proofs.YtiipaliigpkfhaaGreat.Ab

/- Part 17: contracts; one operation, reckoned. -/
set_option linter.unusedVariables false
set_option linter.unusedSimpArgs false
namespace Go.Proofs.YtiipaliigpkfhaaGreat.Ab
open Go Go.RowKit

/-- A contract. -/
def Ctr (P : Program) (g : FuncId) (args : List AV) (x : AV) (H H1 : AHeap) (Wr : List Nat) : Prop :=
  HasBody P g ∧ CallsA P g args (.ret x) H H1 (· ∈ Wr) ∧ Keeps H H1 Wr

def step1 (P : Program) (o : Oper) (T : List AV) (H : AHeap) : Option (AV × AHeap × Bool × Rd × List Nat) :=
  match stepS P o T H with
  | some x => some (x, H, true, rdOf o T, [])
  | none => match stepX P o T H with
    | some (x, H1, Wr) => some (x, H1, false, rd0, Wr)
    | none => none

/-- A call's callee and arguments. -/
def calleeA (o : Oper) (T : List AV) : Option (FuncId × List AV) :=
  match o.op with
  | .call c => match c.callee with
    | .value f => match opdA T f with
      | .fn (.func g) first caps => some (g, first ++ c.args.toList.map (opdA T) ++ caps)
      | _ => none
    | _ => none
  | _ => none
end Go.Proofs.YtiipaliigpkfhaaGreat.Ab

/- Part 18: maps. -/
set_option linter.unusedVariables false
set_option linter.unusedSimpArgs false
namespace Go.Proofs.YtiipaliigpkfhaaGreat.Ab
open Go Go.RowKit

/-! ### Searching -/
def findNowA (d : TypeDesc) (k : Value) : List (Value × AV) → Nat → Option (Option Nat)
  | [], _ => some none
  | e :: es, i => match Instr.sameNow d k e.1 with
    | some true => some (some i)
    | some false => findNowA d k es (i + 1)
    | none => none

def findAskA (P : Program) (kt : TypeId) (k : Value) : List (Value × AV) → Nat → Option (Option Nat)
  | [], _ => some none
  | e :: es, i => match pureEval P (Op.equal kt k e.1) with
    | some true => some (some i)
    | some false => findAskA P kt k es (i + 1)
    | none => none

def findKeyA (P : Program) (kt : TypeId) (d : TypeDesc) (k : Value) (es : List (Value × AV)) : Option (Option Nat) :=
  match findNowA d k es 0 with
  | some r => some r
  | none => findAskA P kt k es 0

/-- The same keys. -/
def KeysOf (es : List (Value × AV)) (ms : List MapEntry) : Prop := ms.length = es.length ∧ ∀ (j : Nat) (e : Value × AV), es[j]? = some e → ∃ m : MapEntry, ms[j]? = some m ∧ m.key = e.1

theorem KeysOf.tail {e : Value × AV} {es : List (Value × AV)} {m : MapEntry} {ms : List MapEntry} (h : KeysOf (e :: es) (m :: ms)) : m.key = e.1 ∧ KeysOf es ms := by
  obtain ⟨m', h1, h2⟩ := h.2 0 e rfl
  cases h1
  exact ⟨h2, by simpa using h.1, fun j e' hj => by
    obtain ⟨m', h1, h2⟩ := h.2 (j + 1) e' (by simpa using hj)
    exact ⟨m', by simpa using h1, h2⟩⟩

/-- A place, as the model's search hands it back. -/
def hit (ms : List MapEntry) (i0 : Nat) : Option Nat → Option (Nat × Value)
  | none => none
  | some i => (ms[i - i0]?).map fun m => (i, m.val)

theorem findNow_eq (d : TypeDesc) (k : Value) : ∀ (es : List (Value × AV)) (ms : List MapEntry) (i : Nat), KeysOf es ms → Instr.findNow d k ms i = (findNowA d k es i).map (hit ms i) ∧ ∀ r, findNowA d k es i = some (some r) → i ≤ r ∧ r - i < ms.length
  | [], ms, i, h => by
    have : ms = [] := List.length_eq_zero_iff.1 h.1
    subst this
    exact ⟨rfl, fun r hr => by simp [findNowA] at hr⟩
  | e :: es, ms, i, h => by
    match ms, h with
    | m :: ms, h =>
      obtain ⟨hk, ht⟩ := h.tail
      obtain ⟨h1, h2⟩ := findNow_eq d k es ms (i + 1) ht
      unfold Instr.findNow findNowA
      rw [hk]
      cases hs : Instr.sameNow d k e.1 with
      | none => exact ⟨rfl, fun r hr => by cases hr⟩
      | some b =>
        cases b with
        | true => exact ⟨by simp [hit], fun r hr => by cases hr; simp⟩
        | false =>
          dsimp only
          refine ⟨?_, fun r hr => ?_⟩
          · rw [h1]
            cases hf : findNowA d k es (i + 1) with
            | none => rfl
            | some r =>
              cases r with
              | none => rfl
              | some r =>
                obtain ⟨h3, h4⟩ := h2 r hf
                simp only [Option.map_some, hit]
                rw [show r - i = (r - (i + 1)) + 1 by omega, List.getElem?_cons_succ]
          · obtain ⟨h3, h4⟩ := h2 r hr
            simp only [List.length_cons]
            omega

theorem findAsk_run {P : Program} (kt : TypeId) (k : Value) (w : World) : ∀ (es : List (Value × AV)) (ms : List MapEntry) (i : Nat) (r : Option Nat), KeysOf es ms → findAskA P kt k es i = some r → (Instr.findAsking kt k ms i).run P w = .ok (hit ms i r) w ∧ ∀ q, r = some q → i ≤ q ∧ q - i < ms.length
  | [], ms, i, r, h, hf => by
    have : ms = [] := List.length_eq_zero_iff.1 h.1
    subst this
    simp only [findAskA, Option.some.injEq] at hf
    subst hf
    exact ⟨rfl, fun q hq => by cases hq⟩
  | e :: es, ms, i, r, h, hf => by
    match ms, h with
    | m :: ms, h =>
      obtain ⟨hk, ht⟩ := h.tail
      unfold findAskA at hf
      unfold Instr.findAsking
      rw [hk, Sem.run_bind]
      split at hf
      · rename_i hs
        cases hf
        rw [pureEval_run hs]
        exact ⟨by simp [hit], fun q hq => by cases hq; simp⟩
      · rename_i hs
        obtain ⟨h1, h2⟩ := findAsk_run kt k w es ms (i + 1) r ht hf
        rw [pureEval_run hs]
        simp only [Result.andThen_ok, Bool.false_eq_true, if_false]
        rw [h1]
        refine ⟨?_, fun q hq => ?_⟩
        · cases r with
          | none => rfl
          | some q =>
            obtain ⟨h3, h4⟩ := h2 q rfl
            simp only [hit]
            rw [show q - i = (q - (i + 1)) + 1 by omega, List.getElem?_cons_succ]
        · obtain ⟨h3, h4⟩ := h2 q hq
          simp only [List.length_cons]
          omega
      · cases hf

theorem findKey_run {P : Program} {kt : TypeId} {d : TypeDesc} {k : Value} {es : List (Value × AV)} {ms : List MapEntry} {r : Option Nat} (hd : pureEval P (underlying kt) = some d) (hk : KeysOf es ms) (hf : findKeyA P kt d k es = some r) (w : World) :
    (Instr.findKey kt k ms).run P w = .ok (hit ms 0 r) w ∧ ∀ q, r = some q → q < ms.length := by
  unfold Instr.findKey
  rw [Sem.run_bind, pureEval_run hd]
  simp only [Result.andThen_ok]
  obtain ⟨h1, h2⟩ := findNow_eq d k es ms 0 hk
  unfold findKeyA at hf
  split at hf
  · rename_i q hq
    cases hf
    rw [hq] at h1
    rw [h1]
    exact ⟨rfl, fun q' e => by subst e; have := h2 q' hq; omega⟩
  · rename_i hq
    rw [hq] at h1
    rw [h1]
    obtain ⟨h3, h4⟩ := findAsk_run (P := P) kt k w es ms 0 r hk hf
    exact ⟨h3, fun q e => by have := h4 q e; omega⟩

section
variable {P : Program} {o : Oper} {T : List AV} {H : AHeap} {E : Env} {w0 w : World}

theorem MapRel.keys {l : Nat} {es : List (Value × AV)} {ms : Array MapEntry} {ck : Nat} (h : MapRel E l es ms ck) : KeysOf es ms.toList :=
  ⟨by simpa using h.1, fun j e hj => let ⟨m, h1, h2, _⟩ := h.2.1 j e hj; ⟨m, by simpa using h1, h2⟩⟩

theorem owns_setMap {E' : Env} {l : Nat} {es es' : List (Value × AV)} (hl : H[l]? = some (.map es)) (hφ : ∀ k, E'.φ k = E.φ k) (hGo : ∀ k m, k ≠ l → E'.G k m = E.G k m) (z c : Nat) : owns E' (H.set l (.map es')) z c ↔ owns E H z c := by
  have hlt : l < H.length := (List.getElem?_eq_some_iff.1 hl).1
  by_cases hz : l = z
  · subst hz
    unfold owns
    rw [List.getElem?_set_self hlt, hl]
    simp only [hφ]
  · unfold owns
    rw [List.getElem?_set_ne hz]
    cases hq : H[z]? with
    | none => exact Iff.rfl
    | some q =>
      cases q with
      | dead => exact Iff.rfl
      | cells cs => simp only [hφ]
      | tail n sz => simp only [hGo z n (fun e => hz e.symm)]
      | map es => simp only [hφ]
      | iter m => simp only [hφ]
      | mark k => simp only [hφ]

/-- A map's object is written anew; more may be known of its entries' births. -/
theorem Good.setMapG (g : Good E H w0 w) {E' : Env} {l b : Nat} {es es' : List (Value × AV)} {ms' : Array MapEntry} {ck' : Nat} (hl : H[l]? = some (.map es)) (hb : E.φ l = some b) (he : E.le E') (hφ : ∀ k, E'.φ k = E.φ k) (hS : ∀ c o, E'.S c o = E.S c o) (hGo : ∀ k m, k ≠ l → E'.G k m = E.G k m) (hr : MapRel E' l es' ms' ck') :
    Good E' (H.set l (.map es')) w0 { w with heap := w.heap.setIfInBounds b (.map ms' ck') } ∧ ∃ ms ck, w.heap[b]? = some (.map ms ck) := by
  have hown : owns E H l b := by unfold owns; rw [hl]; exact hb
  obtain ⟨h1, ms, ck, h3, h4⟩ := g.obj hl b hb
  have hlt : l < H.length := (List.getElem?_eq_some_iff.1 hl).1
  have hblt : b < w.heap.size := (Array.getElem?_eq_some_iff.1 h3).1
  have hoth : ∀ c, c ≠ b → ({ w with heap := w.heap.setIfInBounds b (.map ms' ck') } : World).heap[c]? = w.heap[c]? := fun c hc => Array.getElem?_setIfInBounds_ne (Ne.symm hc)
  have owns_set := owns_setMap (E := E) (E' := E') (H := H) (es' := es') hl hφ hGo
  refine ⟨⟨g.below.trans ⟨rfl, rfl, rfl, by simp, fun k hk => hoth k (by omega)⟩, ?_, ?_, ?_, ?_, ?_⟩, ms, ck, h3⟩
  · intro c o u h
    rw [hS] at h
    have hne : c ≠ b := fun e => by
      subst e
      have := g.snap h
      simp [World.cell?, h3] at this
    rw [cell_same (hoth c hne)]
    exact g.snap h
  · intro z o h
    by_cases hz : l = z
    · subst hz
      rw [List.getElem?_set_self hlt] at h
      simp only [Option.some.injEq] at h
      subst h
      intro c hc
      rw [hφ, hb] at hc
      simp only [Option.some.injEq] at hc
      subst hc
      exact ⟨h1, ms', ck', by simp [hblt], hr⟩
    · rw [List.getElem?_set_ne hz] at h
      exact (g.obj h).step h he (fun c h => (hφ z).symm.trans h) (fun m => hGo z m (fun e => hz e.symm)) (fun c o _ _ h => (hS c o).trans h) (fun c hc => hoth c (fun e => hz (by subst e; exact g.sep hown hc)))
  · intro z z' c h h'
    exact g.sep ((owns_set _ _).1 h) ((owns_set _ _).1 h')
  · intro z hz
    have hz' : H.length ≤ z := by simpa using hz
    have := g.fresh hz'
    exact ⟨(hφ z).trans this.1, fun m => (hGo z m (by omega)).trans (this.2 m)⟩
  · intro z c h
    have := g.φlt ((hφ z).symm.trans h)
    simpa using this

theorem Good.setMap (g : Good E H w0 w) {l b : Nat} {es es' : List (Value × AV)} {ms' : Array MapEntry} {ck' : Nat} (hl : H[l]? = some (.map es)) (hb : E.φ l = some b) (hr : MapRel E l es' ms' ck') :
    Good E (H.set l (.map es')) w0 { w with heap := w.heap.setIfInBounds b (.map ms' ck') } ∧ ∃ ms ck, w.heap[b]? = some (.map ms ck) :=
  g.setMapG hl hb (.refl E) (fun _ => rfl) (fun _ _ => rfl) (fun _ _ _ => rfl) hr

theorem setMapG_ext {E' : Env} {n0 : Nat} {W : Nat → Prop} (g : Good E H w0 w) {l b : Nat} {es es' : List (Value × AV)} {ob : Obj} (hW : l < n0 → W l) (hl : H[l]? = some (.map es)) (hb : E.φ l = some b) (he : E.le E') (hφ : ∀ k, E'.φ k = E.φ k) (hS : ∀ c o, E'.S c o = E.S c o) (hGo : ∀ k m, k ≠ l → E'.G k m = E.G k m) :
    Ext n0 W E H w E' (H.set l (.map es')) { w with heap := w.heap.setIfInBounds b ob } := by
  have hown : owns E H l b := by unfold owns; rw [hl]; exact hb
  refine ⟨he, by simp, by simp, fun {z} hz hw => ?_, fun {z c} hz hw ho => ?_, fun {k} _ => hφ k, fun {c} hc h => ⟨Array.getElem?_setIfInBounds_ne (fun e => h _ (e ▸ hown)), fun z ho => h z ((owns_setMap hl hφ hGo z c).1 ho), fun o => hS c o⟩⟩
  · have : l ≠ z := fun e => hw (e ▸ hW (e ▸ hz))
    exact List.getElem?_set_ne this
  · refine Array.getElem?_setIfInBounds_ne (fun e => ?_)
    subst e
    have := g.sep ho hown
    subst this
    exact hw (hW hz)

theorem setMap_ext {n0 : Nat} {W : Nat → Prop} (g : Good E H w0 w) {l b : Nat} {es es' : List (Value × AV)} {ob : Obj} (hW : l < n0 → W l) (hl : H[l]? = some (.map es)) (hb : E.φ l = some b) :
    Ext n0 W E H w E (H.set l (.map es')) { w with heap := w.heap.setIfInBounds b ob } :=
  setMapG_ext g hW hl hb (.refl E) (fun _ => rfl) (fun _ _ => rfl) (fun _ _ _ => rfl)

theorem Good.newMap (g : Good E H w0 w) : Good (E.withφ H.length w.heap.size) (H ++ [.map []]) w0 (w.alloc (.map #[] 0)) := by
  refine (g.push (.map #[] 0)).adopt (by rw [alloc_size]; omega) (fun l ho => absurd (g.ownlt ho) (Nat.lt_irrefl _)) (fun _ _ => by simp) ?_
  intro b hb
  rw [withφ_self] at hb
  simp only [Option.some.injEq] at hb
  subst hb
  exact ⟨g.below.size, #[], 0, heap_alloc_new w _, rfl, fun j e hj => by simp at hj, fun i m hm => by simp at hm, fun i j m m' hm => by simp at hm, fun i x hx => by
    have hx' : E.G H.length i = some x := hx
    rw [(g.fresh (Nat.le_refl _)).2 i] at hx'; cases hx'⟩

theorem opA_makeMap {t : TypeId} (ho : o.op = .makeMap t none) : OpA P o T H (.mapr H.length) (H ++ [.map []]) [] := by
  refine opA_run fun E w0 w ρ hg ht => ⟨E.withφ H.length w.heap.size, .map (some w.heap.size), w.alloc (.map #[] 0), ?_, new_ext _ _ (Nat.le_refl _) hg _ _, hg.newMap, .mapr _ _ (withφ_self _ _ _)⟩
  simp only [execOp, ho, Option.map_none, Instr.makeMap, newObj, Sem.run_bind, Sem.run, Sem.run_pure, Result.andThen_ok, pure_bind]
  rfl

/-- A key that is known. -/
def keyV : AV → Option Value
  | .sc v => some v
  | .agg cs => (cs.foldr (fun x r => match scal x, r with | some v, some vs => some (v :: vs) | _, _ => none) (some [])).map fun vs => .agg vs.toArray
  | _ => none

theorem keyV_eq {x : AV} {v k : Value} (hr : Rel E x v) (h : keyV x = some k) : v = k := by
  cases hr with
  | sc v hp => simpa [keyV] using h
  | agg cs us hl hk =>
    simp only [keyV, Option.map_eq_some_iff] at h
    obtain ⟨vs, hvs, rfl⟩ := h
    have key : ∀ (cs : List AV) (ws vs : List Value), ws.length = cs.length → (∀ (j : Nat) (x : AV), cs[j]? = some x → Rel E x (ws.getD j undef)) → cs.foldr (fun x r => match scal x, r with | some v, some vs => some (v :: vs) | _, _ => none) (some []) = some vs → ws = vs := by
      intro cs
      induction cs with
      | nil =>
        intro ws vs hl _ h
        simp at h
        rw [h]
        exact List.length_eq_zero_iff.1 hl
      | cons c r ih =>
        intro ws vs hl hk h
        match ws, hl with
        | a :: ws, hl =>
          rw [List.foldr_cons] at h
          split at h
          · rename_i v vs' hv hvs'
            cases h
            have h0 := hk 0 c rfl
            simp only [List.getD_cons_zero] at h0
            rw [rel_scal hv h0, ih ws vs' (by simpa using hl) (fun j x hj => by simpa using hk (j + 1) x (by simpa using hj)) hvs']
          · cases h
    have := key cs us.toList vs (by simpa using hl) (fun j x hj => by simpa using hk j x hj) hvs
    congr 1
    apply Array.ext'
    simpa using this
  | _ => simp [keyV] at h

/-- A map's search at a known key. -/
structure MapT (P : Program) (t kt et : TypeId) (d : TypeDesc) (z : Value) (k : Value) : Prop where
  ty : pureEval P (underlying t) = some (.map kt et)
  kd : pureEval P (underlying kt) = some d
  zero : pureEval P (zeroValue et) = some z
  chk : ∀ b, pureEval P (Instr.checkKey b 10000 kt k) = some ()

def gotA (es : List (Value × AV)) (z : Value) : Option Nat → Option AV
  | some i => (es[i]?).map (·.2)
  | none => some (constA z)

theorem opA_lookup {t kt et : TypeId} {d : TypeDesc} {z : Value} {p q : Operand} {ok : Bool} {l : Nat} {es : List (Value × AV)} {k : Value} {r : Option Nat} {x : AV} (ho : o.op = .lookup t p q ok) (hT : MapT P t kt et d z k) (hp : opdA T p = .mapr l) (hl : H[l]? = some (.map es)) (hk : keyV (opdA T q) = some k)
    (hf : findKeyA P kt d k es = some r) (hx : gotA es z r = some x) : OpS P o T H (if ok then .tup [x, .sc (.bool r.isSome)] else x) := by
  refine opS_intro fun E w0 w ρ hg ht => ?_
  have hr := ht p (by simp [ho, Op.operands])
  rw [hp] at hr
  have hq := keyV_eq (ht q (by simp [ho, Op.operands])) hk
  generalize hv : ρ p = v at hr
  cases hr with
  | mapr l b hb =>
    obtain ⟨h1, ms, ck, h3, h4⟩ := hg.obj hl b hb
    obtain ⟨hrun, hlt⟩ := findKey_run hT.kd h4.keys hf w
    have hval : ∃ u, ((match hit ms.toList 0 r with | some (_, v) => (.ok (v, true) w : Result (Value × Bool)) | none => .ok (z, false) w) = .ok (u, r.isSome) w) ∧ Rel E x u := by
      cases r with
      | none =>
        simp only [gotA, Option.some.injEq] at hx
        subst hx
        exact ⟨z, rfl, constA_rel E _ z (Nat.lt_succ_self _)⟩
      | some i =>
        simp only [gotA, Option.map_eq_some_iff] at hx
        obtain ⟨e, he, rfl⟩ := hx
        obtain ⟨m, hm, _, hrel⟩ := h4.2.1 i e he
        have hm' : ms.toList[i]? = some m := by simpa using hm
        exact ⟨m.val, by simp [hit, hm'], hrel⟩
    obtain ⟨u, hu, hrel⟩ := hval
    refine ⟨if ok then .tuple #[u, .bool r.isSome] else u, ?_, ?_⟩
    · simp only [execOp, ho, Instr.lookup, hv, hq, Sem.run_bind, pureEval_run hT.ty, Result.andThen_ok]
      have hget : (getObj b).run P w = .ok (.map ms ck) w := by simp [getObj, Sem.run, h3]
      cases hh : hit ms.toList 0 r with
      | none =>
        rw [hh] at hu hrun
        simp only [Result.ok.injEq, Prod.mk.injEq, and_true] at hu
        obtain ⟨rfl, h⟩ := hu
        simp only [hget, Result.andThen_ok, Sem.run_bind, Sem.run_pure, pureEval_run (hT.chk ms.isEmpty), hrun, pureEval_run hT.zero, ← h]
      | some iv =>
        obtain ⟨i, v⟩ := iv
        rw [hh] at hu hrun
        simp only [Result.ok.injEq, Prod.mk.injEq, and_true] at hu
        obtain ⟨rfl, h⟩ := hu
        simp only [hget, Result.andThen_ok, Sem.run_bind, Sem.run_pure, pureEval_run (hT.chk ms.isEmpty), hrun, ← h]
    · cases ok with
      | false => exact hrel
      | true =>
        refine .tup _ _ rfl (fun j y hj => ?_)
        match j, hj with
        | 0, hj => simp at hj; subst hj; exact hrel
        | 1, hj => simp at hj; subst hj; exact .sc _ rfl

theorem push_born {l : Nat} {ms : Array MapEntry} (h : BornG E l ms) (m : MapEntry) : BornG E l (ms.push m) := fun i x hx => by
  obtain ⟨h1, m', h2, h3⟩ := h i x hx
  have hi := (Array.getElem?_eq_some_iff.1 h2).1
  exact ⟨h1, m', by rw [Array.getElem?_push, if_neg (by omega)]; exact h2, h3⟩
theorem modify_born {l : Nat} {ms : Array MapEntry} (h : BornG E l ms) (k : Nat) (f : MapEntry → MapEntry) (hf : ∀ m, (f m).born = m.born) : BornG E l (ms.modify k f) := fun i x hx => by
  obtain ⟨h1, m', h2, h3⟩ := h i x hx
  rw [Array.getElem?_modify]
  by_cases hk : k = i
  · rw [if_pos hk, h2]; exact ⟨h1, f m', rfl, (hf m').trans h3⟩
  · rw [if_neg hk]; exact ⟨h1, m', h2, h3⟩

def upd (es : List (Value × AV)) (k : Value) (x : AV) : Option Nat → List (Value × AV)
  | some i => es.set i (k, x)
  | none => es ++ [(k, x)]

theorem opA_mapUpdate {t kt et : TypeId} {d : TypeDesc} {z : Value} {p q s : Operand} {l : Nat} {es : List (Value × AV)} {k : Value} {r : Option Nat} (ho : o.op = .mapUpdate t p q s) (hT : MapT P t kt et d z k) (hp : opdA T p = .mapr l) (hl : H[l]? = some (.map es))
    (hk : keyV (opdA T q) = some k) (hf : findKeyA P kt d k es = some r) (hb : ∀ i, r = some i → ∃ e, es[i]? = some e ∧ Instr.sameBits 10000 e.1 k = true) : OpA P o T H .any (H.set l (.map (upd es k (opdA T s) r))) [l] := by
  refine opA_skip fun E w0 w ρ hg ht => ?_
  have hr := ht p (by simp [ho, Op.operands])
  rw [hp] at hr
  have hq := keyV_eq (ht q (by simp [ho, Op.operands])) hk
  have hs := ht s (by simp [ho, Op.operands])
  generalize hv : ρ p = v at hr
  cases hr with
  | mapr l b hbl =>
    obtain ⟨h1, ms, ck, h3, h4⟩ := hg.obj hl b hbl
    obtain ⟨hrun, hlt⟩ := findKey_run hT.kd h4.keys hf w
    have hget : (getObj b).run P w = .ok (.map ms ck) w := by simp [getObj, Sem.run, h3]
    have hset : ∀ o', (setObj b o').run P w = .ok () { w with heap := w.heap.setIfInBounds b o' } := fun o' => by simp [setObj, Sem.run, h3]
    cases r with
    | none =>
      have hnew : MapRel E l (es ++ [(k, opdA T s)]) (ms.push { key := k, val := ρ s, born := ck }) (ck + 1) := by
        refine ⟨by simp [h4.1], fun j e hj => ?_, fun i m hm => ?_, fun i j m m' hm hm' hbo => ?_, push_born h4.2.2.2.2 _⟩
        · by_cases hjl : j < es.length
          · rw [List.getElem?_append_left hjl] at hj
            obtain ⟨m, hm, hk1, hk2⟩ := h4.2.1 j e hj
            have hjm : j < ms.size := by rw [h4.1]; exact hjl
            exact ⟨m, by rw [Array.getElem?_push, if_neg (by omega)]; exact hm, hk1, hk2⟩
          · have hjl' : j = es.length := by
              have := (List.getElem?_eq_some_iff.1 hj).1
              simp at this; omega
            subst hjl'
            simp at hj
            subst hj
            exact ⟨({ key := k, val := ρ s, born := ck } : MapEntry), by rw [← h4.1]; simp, rfl, hs⟩
        · rw [Array.getElem?_push] at hm
          split at hm
          · cases hm; simp
          · have := h4.2.2.1 i m hm; omega
        · rw [Array.getElem?_push] at hm hm'
          split at hm <;> split at hm'
          · omega
          · cases hm
            have := h4.2.2.1 j m' hm'
            simp only at hbo
            omega
          · cases hm'
            have := h4.2.2.1 i m hm
            simp only at hbo
            omega
          · exact h4.2.2.2.1 i j m m' hm hm' hbo
      obtain ⟨g', _⟩ := hg.setMap hl hbl hnew
      refine ⟨E, _, ?_, setMap_ext hg (fun _ => by simp) hl hbl, g'⟩
      simp only [execOp, ho, Instr.mapUpdate, hv, hq, Sem.run_bind, pureEval_run hT.ty, Result.andThen_ok, hget, pureEval_run (hT.chk false), hrun, hit, hset, Sem.run_pure]
    | some i =>
      obtain ⟨e, he, hbits⟩ := hb i rfl
      obtain ⟨m, hm, hmk, _⟩ := h4.2.1 i e he
      have hil : i < ms.size := (Array.getElem?_eq_some_iff.1 hm).1
      have hnew : MapRel E l (es.set i (k, opdA T s)) (ms.modify i fun e => { e with key := k, val := ρ s }) ck := by
        refine ⟨by simp [h4.1], fun j e' hj => ?_, fun j m' hm' => ?_, fun j j' m1 m2 hm1 hm2 hbo => ?_, modify_born h4.2.2.2.2 i _ (fun _ => rfl)⟩
        · by_cases hij : i = j
          · subst hij
            rw [List.getElem?_set_self (by rw [← h4.1]; exact hil)] at hj
            cases hj
            exact ⟨{ m with key := k, val := ρ s }, by rw [Array.getElem?_modify, if_pos rfl, hm]; rfl, rfl, hs⟩
          · rw [List.getElem?_set_ne hij] at hj
            obtain ⟨m', hm', hk1, hk2⟩ := h4.2.1 j e' hj
            exact ⟨m', by rw [Array.getElem?_modify, if_neg hij]; exact hm', hk1, hk2⟩
        · rw [Array.getElem?_modify] at hm'
          split at hm'
          · rename_i hij
            subst hij
            rw [hm] at hm'
            cases hm'
            exact h4.2.2.1 i m hm
          · exact h4.2.2.1 j m' hm'
        · have born : ∀ (j : Nat) (m1 : MapEntry), (ms.modify i fun e => { e with key := k, val := ρ s })[j]? = some m1 → ∃ m0, ms[j]? = some m0 ∧ m0.born = m1.born := by
            intro j m1 h
            rw [Array.getElem?_modify] at h
            split at h
            · rename_i hij
              subst hij
              rw [hm] at h
              cases h
              exact ⟨m, hm, rfl⟩
            · exact ⟨m1, h, rfl⟩
          obtain ⟨n1, hn1, hb1⟩ := born j m1 hm1
          obtain ⟨n2, hn2, hb2⟩ := born j' m2 hm2
          exact h4.2.2.2.1 j j' n1 n2 hn1 hn2 (by rw [hb1, hb2, hbo])
      obtain ⟨g', _⟩ := hg.setMap hl hbl hnew
      refine ⟨E, _, ?_, setMap_ext hg (fun _ => by simp) hl hbl, g'⟩
      have hml : ms.toList[i]? = some m := by simpa using hm
      have hstay : (Instr.keyThatStays m.key k).run P w = .ok k w := by
        unfold Instr.keyThatStays
        rw [hmk, hbits]
        rfl
      simp only [execOp, ho, Instr.mapUpdate, hv, hq, Sem.run_bind, pureEval_run hT.ty, Result.andThen_ok, hget, pureEval_run (hT.chk false), hrun, hit, Nat.sub_zero, hml, Option.map_some, hm, Option.getD_some, hstay, hset, Sem.run_pure]

/-- One entry's birth is told. -/
def Env.withB (E : Env) (l i n : Nat) : Env := { E with G := fun x m => if x = l ∧ m = i then some (n, 0) else E.G x m }
theorem withB_le {l i n : Nat} (h : ∀ x, E.G l i = some x → x = (n, 0)) : E.le (E.withB l i n) :=
  ⟨fun h => h, fun h => h, fun {t m x} hx => by
    by_cases hc : t = l ∧ m = i
    · obtain ⟨rfl, rfl⟩ := hc
      simp [Env.withB, h x hx]
    · simp [Env.withB, hc, hx]⟩
theorem withB_self (E : Env) (l i n : Nat) : (E.withB l i n).G l i = some (n, 0) := by simp [Env.withB]
theorem withB_born {l i n : Nat} {ms : Array MapEntry} (h : BornG E l ms) {m : MapEntry} (hm : ms[i]? = some m) (hn : m.born = n) : BornG (E.withB l i n) l ms := fun j x hx => by
  by_cases hj : j = i
  · subst hj
    rw [withB_self] at hx
    cases hx
    exact ⟨rfl, m, hm, hn⟩
  · exact h j x (by simpa [Env.withB, hj] using hx)

theorem opA_mapEntry {t kt et : TypeId} {d : TypeDesc} {z : Value} {p q : Operand} {l : Nat} {es : List (Value × AV)} {k : Value} {r : Option Nat} {i : Nat} {x : AV} {es' : List (Value × AV)} (ho : o.op = .mapEntry t p q) (hT : MapT P t kt et d z k) (hp : opdA T p = .mapr l) (hl : H[l]? = some (.map es))
    (hk : keyV (opdA T q) = some k) (hf : findKeyA P kt d k es = some r)
    (hb : (r = none ∧ i = es.length ∧ x = constA z ∧ es' = es ++ [(k, constA z)]) ∨ (∃ e, r = some i ∧ es[i]? = some e ∧ Instr.sameBits 10000 e.1 k = true ∧ x = e.2 ∧ es' = es.set i (k, e.2))) :
    OpA P o T H (.tup [x, .stamp l i]) (H.set l (.map es')) [l] := by
  refine opA_run fun E w0 w ρ hg ht => ?_
  have hr := ht p (by simp [ho, Op.operands])
  rw [hp] at hr
  have hq := keyV_eq (ht q (by simp [ho, Op.operands])) hk
  generalize hv : ρ p = v at hr
  cases hr with
  | mapr l b hbl =>
    obtain ⟨h1, ms, ck, h3, h4⟩ := hg.obj hl b hbl
    obtain ⟨hrun, hlt⟩ := findKey_run hT.kd h4.keys hf w
    have hget : (getObj b).run P w = .ok (.map ms ck) w := by simp [getObj, Sem.run, h3]
    have hset : ∀ o', (setObj b o').run P w = .ok () { w with heap := w.heap.setIfInBounds b o' } := fun o' => by simp [setObj, Sem.run, h3]
    have pair : ∀ {E2 : Env} {u : Value} {n : Nat}, Rel E2 x u → E2.G l i = some (n, 0) → Rel E2 (.tup [x, .stamp l i]) (.tuple #[u, goInt n]) := by
      intro E2 u n hu hG
      refine .tup _ _ rfl (fun j y hj => ?_)
      match j, hj with
      | 0, hj => simp at hj; subst hj; exact hu
      | 1, hj => simp at hj; subst hj; exact .stamp l i n hG
    rcases hb with ⟨rfl, rfl, rfl, rfl⟩ | ⟨e, rfl, he, hbits, rfl, rfl⟩
    · have hnone : ∀ y, E.G l es.length = some y → y = (ck, 0) := fun y hy => by
        obtain ⟨_, m, hm, _⟩ := h4.2.2.2.2 _ y hy
        have := (Array.getElem?_eq_some_iff.1 hm).1
        rw [h4.1] at this
        omega
      have hle := withB_le (E := E) (l := l) (i := es.length) (n := ck) hnone
      have hnew : MapRel (E.withB l es.length ck) l (es ++ [(k, constA z)]) (ms.push { key := k, val := z, born := ck }) (ck + 1) := by
        refine ⟨by simp [h4.1], fun j e hj => ?_, fun i m hm => ?_, fun i j m m' hm hm' hbo => ?_, withB_born (m := { key := k, val := z, born := ck }) (push_born h4.2.2.2.2 _) (by rw [← h4.1]; simp) rfl⟩
        · by_cases hjl : j < es.length
          · rw [List.getElem?_append_left hjl] at hj
            obtain ⟨m, hm, hk1, hk2⟩ := h4.2.1 j e hj
            have hjm : j < ms.size := by rw [h4.1]; exact hjl
            exact ⟨m, by rw [Array.getElem?_push, if_neg (by omega)]; exact hm, hk1, hk2.mono hle⟩
          · have hjl' : j = es.length := by
              have := (List.getElem?_eq_some_iff.1 hj).1
              simp at this; omega
            subst hjl'
            simp at hj
            subst hj
            exact ⟨({ key := k, val := z, born := ck } : MapEntry), by rw [← h4.1]; simp, rfl, constA_rel _ _ z (Nat.lt_succ_self _)⟩
        · rw [Array.getElem?_push] at hm
          split at hm
          · cases hm; simp
          · have := h4.2.2.1 i m hm; omega
        · rw [Array.getElem?_push] at hm hm'
          split at hm <;> split at hm'
          · omega
          · cases hm
            have := h4.2.2.1 j m' hm'
            simp only at hbo
            omega
          · cases hm'
            have := h4.2.2.1 i m hm
            simp only at hbo
            omega
          · exact h4.2.2.2.1 i j m m' hm hm' hbo
      have hGo : ∀ k m, k ≠ l → (E.withB l es.length ck).G k m = E.G k m := fun k m hne => by simp [Env.withB, hne]
      obtain ⟨g', _⟩ := hg.setMapG hl hbl hle (fun _ => rfl) (fun _ _ => rfl) hGo hnew
      refine ⟨E.withB l es.length ck, .tuple #[z, goInt ck], _, ?_, setMapG_ext hg (fun _ => by simp) hl hbl hle (fun _ => rfl) (fun _ _ => rfl) hGo, g', pair (constA_rel _ _ z (Nat.lt_succ_self _)) (withB_self _ _ _ _)⟩
      simp only [execOp, ho, Instr.mapEntry, hv, hq, Sem.run_bind, pureEval_run hT.ty, Result.andThen_ok, hget, pureEval_run (hT.chk false), hrun, hit, pureEval_run hT.zero, hset, Sem.run_pure]
    · obtain ⟨m, hm, hmk, hrel⟩ := h4.2.1 i e he
      have hil : i < ms.size := (Array.getElem?_eq_some_iff.1 hm).1
      have hone : ∀ y, E.G l i = some y → y = (m.born, 0) := fun y hy => by
        obtain ⟨h0, m', hm', hb'⟩ := h4.2.2.2.2 i y hy
        rw [hm] at hm'
        cases hm'
        obtain ⟨y1, y2⟩ := y
        simp only at h0 hb'
        rw [h0, hb']
      have hle := withB_le (E := E) (l := l) (i := i) (n := m.born) hone
      have born : ∀ (j : Nat) (m1 : MapEntry), (ms.modify i fun e => { e with key := k })[j]? = some m1 → ∃ m0, ms[j]? = some m0 ∧ m0.born = m1.born := by
        intro j m1 h
        rw [Array.getElem?_modify] at h
        split at h
        · rename_i hij
          subst hij
          rw [hm] at h
          cases h
          exact ⟨m, hm, rfl⟩
        · exact ⟨m1, h, rfl⟩
      have hnew : MapRel (E.withB l i m.born) l (es.set i (k, e.2)) (ms.modify i fun e => { e with key := k }) ck := by
        refine ⟨by simp [h4.1], fun j e' hj => ?_, fun j m' hm' => ?_, fun j j' m1 m2 hm1 hm2 hbo => ?_, withB_born (m := { m with key := k }) (modify_born h4.2.2.2.2 i _ (fun _ => rfl)) (by rw [Array.getElem?_modify, if_pos rfl, hm]; rfl) rfl⟩
        · by_cases hij : i = j
          · subst hij
            rw [List.getElem?_set_self (by rw [← h4.1]; exact hil)] at hj
            cases hj
            exact ⟨{ m with key := k }, by rw [Array.getElem?_modify, if_pos rfl, hm]; rfl, rfl, hrel.mono hle⟩
          · rw [List.getElem?_set_ne hij] at hj
            obtain ⟨m', hm', hk1, hk2⟩ := h4.2.1 j e' hj
            exact ⟨m', by rw [Array.getElem?_modify, if_neg hij]; exact hm', hk1, hk2.mono hle⟩
        · obtain ⟨n1, hn1, hb1⟩ := born j m' hm'
          rw [← hb1]
          exact h4.2.2.1 j n1 hn1
        · obtain ⟨n1, hn1, hb1⟩ := born j m1 hm1
          obtain ⟨n2, hn2, hb2⟩ := born j' m2 hm2
          exact h4.2.2.2.1 j j' n1 n2 hn1 hn2 (by rw [hb1, hb2, hbo])
      have hGo : ∀ k m', k ≠ l → (E.withB l i m.born).G k m' = E.G k m' := fun k m' hne => by simp [Env.withB, hne]
      obtain ⟨g', _⟩ := hg.setMapG hl hbl hle (fun _ => rfl) (fun _ _ => rfl) hGo hnew
      refine ⟨E.withB l i m.born, .tuple #[m.val, goInt m.born], _, ?_, setMapG_ext hg (fun _ => by simp) hl hbl hle (fun _ => rfl) (fun _ _ => rfl) hGo, g', pair (hrel.mono hle) (withB_self _ _ _ _)⟩
      have hml : ms.toList[i]? = some m := by simpa using hm
      have hstay : (Instr.keyThatStays m.key k).run P w = .ok k w := by
        unfold Instr.keyThatStays
        rw [hmk, hbits]
        rfl
      simp only [execOp, ho, Instr.mapEntry, hv, hq, Sem.run_bind, pureEval_run hT.ty, Result.andThen_ok, hget, pureEval_run (hT.chk false), hrun, hit, Nat.sub_zero, hml, Option.map_some, hm, Option.getD_some, hstay, hset, Sem.run_pure]

theorem opA_entryStore {t : TypeId} {p s q : Operand} {l i : Nat} {es : List (Value × AV)} {e : Value × AV} (ho : o.op = .entryStore t p s q) (hp : opdA T p = .mapr l) (hs : opdA T s = .stamp l i) (hl : H[l]? = some (.map es)) (he : es[i]? = some e) :
    OpA P o T H .any (H.set l (.map (es.set i (e.1, opdA T q)))) [l] := by
  refine opA_skip fun E w0 w ρ hg ht => ?_
  have hr := ht p (by simp [ho, Op.operands])
  rw [hp] at hr
  have hrs := ht s (by simp [ho, Op.operands])
  rw [hs] at hrs
  have hq := ht q (by simp [ho, Op.operands])
  generalize hv : ρ p = v at hr
  generalize hu : ρ s = u at hrs
  cases hr with
  | mapr l b hbl =>
    cases hrs with
    | stamp l i n hG =>
      obtain ⟨h1, ms, ck, h3, h4⟩ := hg.obj hl b hbl
      obtain ⟨_, m, hm, hmn⟩ := h4.2.2.2.2 i _ hG
      simp only at hmn
      have hil : i < ms.size := (Array.getElem?_eq_some_iff.1 hm).1
      have hget : (getObj b).run P w = .ok (.map ms ck) w := by simp [getObj, Sem.run, h3]
      have hset : ∀ o', (setObj b o').run P w = .ok () { w with heap := w.heap.setIfInBounds b o' } := fun o' => by simp [setObj, Sem.run, h3]
      have hmi : ms[i] = m := (Array.getElem?_eq_some_iff.1 hm).2
      have hfind : ms.findIdx? (fun e => (e.born : Int) == (n : Int)) = some i := by
        rw [Array.findIdx?_eq_some_iff_getElem]
        refine ⟨hil, by rw [hmi, hmn]; simp, fun j hj => ?_⟩
        have hjl : j < ms.size := by omega
        intro hc
        simp only [beq_iff_eq] at hc
        have := h4.2.2.2.1 j i ms[j] m (by simp [hjl]) hm (by omega)
        omega
      have born : ∀ (j : Nat) (m1 : MapEntry), (ms.modify i fun e => { e with val := ρ q })[j]? = some m1 → ∃ m0, ms[j]? = some m0 ∧ m0.born = m1.born := by
        intro j m1 h
        rw [Array.getElem?_modify] at h
        split at h
        · rename_i hij
          subst hij
          rw [hm] at h
          cases h
          exact ⟨m, hm, rfl⟩
        · exact ⟨m1, h, rfl⟩
      obtain ⟨m0, hm0, hk0, _⟩ := h4.2.1 i e he
      have hnew : MapRel E l (es.set i (e.1, opdA T q)) (ms.modify i fun e => { e with val := ρ q }) ck := by
        refine ⟨by simp [h4.1], fun j e' hj => ?_, fun j m' hm' => ?_, fun j j' m1 m2 hm1 hm2 hbo => ?_, modify_born h4.2.2.2.2 i _ (fun _ => rfl)⟩
        · by_cases hij : i = j
          · subst hij
            rw [List.getElem?_set_self (by rw [← h4.1]; exact hil)] at hj
            cases hj
            exact ⟨{ m0 with val := ρ q }, by rw [Array.getElem?_modify, if_pos rfl, hm0]; rfl, hk0, hq⟩
          · rw [List.getElem?_set_ne hij] at hj
            obtain ⟨m', hm', hk1, hk2⟩ := h4.2.1 j e' hj
            exact ⟨m', by rw [Array.getElem?_modify, if_neg hij]; exact hm', hk1, hk2⟩
        · obtain ⟨n1, hn1, hb1⟩ := born j m' hm'
          rw [← hb1]
          exact h4.2.2.1 j n1 hn1
        · obtain ⟨n1, hn1, hb1⟩ := born j m1 hm1
          obtain ⟨n2, hn2, hb2⟩ := born j' m2 hm2
          exact h4.2.2.2.1 j j' n1 n2 hn1 hn2 (by rw [hb1, hb2, hbo])
      obtain ⟨g', _⟩ := hg.setMap hl hbl hnew
      refine ⟨E, _, ?_, setMap_ext hg (fun _ => by simp) hl hbl, g'⟩
      simp only [execOp, ho, Instr.entryStore, hv, hu, Sem.run_bind, Result.andThen_ok, hget, asInt, asIntOf, Sem.run_pure, hfind, hset]

theorem opS_lenMap {t kt et : TypeId} {c : Call} {p : Operand} {l : Nat} {es : List (Value × AV)} (ho : o.op = .call c) (hc : c.callee = .builtin .len) (ha : c.args = #[p]) (htt : c.argTypes[0]? = some t) (hu : pureEval P (underlying t) = some (.map kt et))
    (hp : opdA T p = .mapr l) (hl : H[l]? = some (.map es)) : OpS P o T H (.sc (.int .i64 es.length)) := by
  refine opS_intro fun E w0 w ρ hg ht => ?_
  have hr := ht p (by simp [ho, Op.operands, Call.operands, ha])
  rw [hp] at hr
  generalize hv : ρ p = v at hr
  cases hr with
  | mapr l b hb =>
    obtain ⟨h1, ms, ck, h3, h4⟩ := hg.obj hl b hb
    refine ⟨.int .i64 es.length, ?_, .sc _ rfl⟩
    simp [execOp, ho, resolve, hc, invoke, builtin, Builtin.len_, htt, ha, hv, pureEval_run hu, goInt, getObj, Sem.run, h3, h4.1]

/-! ### Ranging over an empty map -/
theorem opA_range {t kt et : TypeId} {p : Operand} {l : Nat} {es : List (Value × AV)} (ho : o.op = .range t p) (hu : pureEval P (underlying t) = some (.map kt et)) (hp : opdA T p = .mapr l) (hl : H[l]? = some (.map [])) : OpA P o T H (.ptr H.length 0) (H ++ [.iter l]) [] := by
  refine opA_run fun E w0 w ρ hg ht => ?_
  have hr := ht p (by simp [ho, Op.operands])
  rw [hp] at hr
  generalize hv : ρ p = v at hr
  cases hr with
  | mapr l b hb =>
    obtain ⟨h1, ms, ck, h3, h4⟩ := hg.obj hl b hb
    have hlt : l < H.length := (List.getElem?_eq_some_iff.1 hl).1
    refine ⟨E.withφ H.length w.heap.size, .pointer (some ⟨w.heap.size, 0, none⟩), w.alloc (.mapIter (some b) ck #[] ck), ?_, new_ext _ _ (Nat.le_refl _) hg _ _, ?_, .ptr _ _ _ (withφ_self _ _ _)⟩
    · have hget : (getObj b).run P w = .ok (.map ms ck) w := by simp [getObj, Sem.run, h3]
      simp only [execOp, ho, Instr.range, hv, Sem.run_bind, pureEval_run hu, Result.andThen_ok, hget, newObj, Sem.run, Sem.run_pure, pure_bind]
      rfl
    · refine (hg.push (.mapIter (some b) ck #[] ck)).adopt (by rw [alloc_size]; omega) (fun l ho => absurd (hg.ownlt ho) (Nat.lt_irrefl _)) (fun _ _ => by simp) ?_
      intro c hc
      rw [withφ_self] at hc
      simp only [Option.some.injEq] at hc
      subst hc
      exact ⟨hg.below.size, b, ck, (Env.withφ_le (hg.fresh (Nat.le_refl _)).1).φ hb, heap_alloc_new w _⟩

theorem opA_next_over {p : Operand} {l m : Nat} (ho : o.op = .next p false) (hp : opdA T p = .ptr l 0) (hl : H[l]? = some (.iter m)) (hm : H[m]? = some (.map [])) : OpA P o T H (.tup [.sc (.bool false)]) H [] := by
  refine opA_run fun E w0 w ρ hg ht => ?_
  have hr := ht p (by simp [ho, Op.operands])
  rw [hp] at hr
  generalize hv : ρ p = v at hr
  cases hr with
  | ptr l o b hb =>
    obtain ⟨h1, r, ck, h2, h3⟩ := hg.obj hl b hb
    obtain ⟨h5, ms, ck', h6, h7⟩ := hg.obj hm r h2
    have hms : ms = #[] := Array.eq_empty_of_size_eq_zero h7.1
    subst hms
    refine ⟨E, .tuple #[.bool false], w, ?_, .refl _ _ _ _ _, hg, .tup _ _ rfl (fun j x hj => ?_)⟩
    · simp only [execOp, ho, Instr.next, hv, Sem.run_bind, getObj, Sem.run, h3, h6, Result.andThen_ok]
      have hf : ∀ q : MapEntry → Bool, Array.filter q #[] 0 0 = #[] := fun _ => rfl
      simp [choose, Sem.run, Question.forced, Question.cut, Result.andThen, hf]
    · match j, hj with
      | 0, hj => simp at hj; subst hj; exact .sc _ rfl

/-! ### Bytes as a string -/
def bytesL : Nat → (Nat → List AV) → Option (List Int)
  | 0, _ => some []
  | n + 1, el => match el 0 with
    | [.sc (.int .u8 k)] => (bytesL n (fun i => el (i + 1))).map (k :: ·)
    | _ => none

def strB (ns : List Int) : ByteArray := ns.foldl (fun r n => r.push (UInt8.ofNat n.toNat)) ByteArray.empty

theorem bytesL_get : ∀ (n : Nat) (el : Nat → List AV) (ns : List Int), bytesL n el = some ns → ns.length = n ∧ ∀ j k, ns[j]? = some k → el j = [.sc (.int .u8 k)]
  | 0, el, ns, h => by
    simp only [bytesL, Option.some.injEq] at h
    subst h
    exact ⟨rfl, fun j k hj => by simp at hj⟩
  | n + 1, el, ns, h => by
    unfold bytesL at h
    split at h
    · rename_i k h0
      rw [Option.map_eq_some_iff] at h
      obtain ⟨ms, hms, rfl⟩ := h
      obtain ⟨h1, h2⟩ := bytesL_get n _ ms hms
      refine ⟨by simp [h1], fun j q hj => ?_⟩
      cases j with
      | zero => simp at hj; subst hj; exact h0
      | succ j => exact h2 j q (by simpa using hj)
    · cases h

theorem opS_bytesStr {src dst elem : TypeId} {p : Operand} {nl : Bool} {sz n : Nat} {el : Nat → List AV} {own : Own} {ns : List Int} (ho : o.op = .convert src dst p) (hu1 : pureEval P (underlying src) = some (.slice elem)) (hu2 : pureEval P (underlying dst) = some .string)
    (hu3 : pureEval P (underlying elem) = some (.int .u8)) (hp : opdA T p = .rsl nl sz n el own) (hsz : sz = 1 ∨ n = 0) (hns : bytesL n el = some ns) : OpS P o T H (.sc (.string (strB ns))) := by
  refine opS_intro fun E w0 w ρ hg ht => ⟨.string (strB ns), ?_, .sc _ rfl⟩
  obtain ⟨hlen, hel⟩ := bytesL_get n el ns hns
  have hr := ht p (by simp [ho, Op.operands])
  rw [hp] at hr
  generalize hv : ρ p = v at hr
  have hconv : ∀ a l c, (convert src dst (.slice a l c)).run P w = (Conv.bytesToString (.slice a l c)).run P w := fun a l c => by
    simp [convert, pureEval_run hu1, pureEval_run hu2, pureEval_run hu3]
  have hrun : (convert src dst v).run P w = .ok (.string (strB ns)) w := by
    cases hr with
    | rnil sz el own h =>
      have : ns = [] := List.length_eq_zero_iff.1 hlen
      subst this
      rw [hconv]
      simp [Conv.bytesToString, strB]
    | rodd sz el own a h =>
      have : ns = [] := List.length_eq_zero_iff.1 hlen
      subst this
      rw [hconv]
      exact run_bytesToString w _ _ _ [] (by simp [loadCells, loadCellsFrom, Sem.run])
    | rsl sz n el own b off c u hn ho' hc hl h1 hS hk =>
      rw [hconv]
      refine run_bytesToString w _ _ _ ns ?_
      have := run_loadCells_list (P := P) (w := w) ⟨b, off, none⟩ (ns.map (Value.int .u8)) (fun j v hj => ?_)
      · rw [List.length_map, hlen] at this
        exact this
      · rw [List.getElem?_map, Option.map_eq_some_iff] at hj
        obtain ⟨k, hj, rfl⟩ := hj
        have hjn : j < n := by rw [← hlen]; exact (List.getElem?_eq_some_iff.1 hj).1
        have hs1 : sz = 1 := by omega
        subst hs1
        have e := hel j k hj
        have h2 := hS j hjn 0 (.sc (.int .u8 k)) (by rw [e]; rfl)
        have h3 := hk j hjn 0 (.sc (.int .u8 k)) (by rw [e]; rfl)
        generalize u j 0 = q at h2 h3
        cases h3
        rw [add_plain']
        have := hg.snap h2
        simpa using this
  simp only [execOp, ho, hv, Sem.run_bind, hrun, Result.andThen_ok, Sem.run_pure]

/-! ### A row that is made to be converted at once -/
theorem opA_buildSliceL {t elem : TypeId} {n sz : Nat} {ps : Array (Nat × Operand)} {z : Value} {zs cs : List AV} (ho : o.op = .buildSlice t n ps) (hu : pureEval P (underlying t) = some (.slice elem)) (hs : pureEval P (Go.sizeOf elem) = some sz)
    (hz : pureEval P (zeroValue elem) = some z) (hzc : (constA z).cells = zs) (hzn : notAny (constA z) = true) (hzl : 0 < zs.length) (hbig : 0 < n * sz ∧ n * sz ≤ 2 ^ 24)
    (hf : fillA (fun i => some (i * sz, sz)) ((List.range (n * sz)).map fun i => zs.getD (i % zs.length) .any) (ps.toList.map fun (i, x) => (i, opdA T x)) = some cs) (hn : n ≤ maxLen) : OpA P o T H (.msl H.length sz n) (H ++ [.cells cs]) [] := by
  refine opA_run fun E w0 w ρ hg ht => ?_
  have hzr := constA_rel E _ z (Nat.lt_succ_self _)
  have hzra : RA E zs z.cells := hzc ▸ cells_rel hzr hzn
  obtain ⟨hl, hr⟩ := parts_rel ps (fun y hy => ht y.2 (by simp only [ho, Op.operands]; simp only [List.mem_toArray, List.mem_map]; exact ⟨y, by simpa using hy, rfl⟩))
  obtain ⟨out, hout, hra0⟩ := fill_RA _ _ _ _ _ (zeros_RA hzra (n * sz) (.inr hzl)) hl hr hf
  refine ⟨E.withφ H.length w.heap.size, .slice (some ⟨w.heap.size, 0, none⟩) n n, w.alloc (.cells out elem), ?_, new_ext _ _ (Nat.le_refl _) hg _ _, hg.new elem hra0.cells, .msl _ _ _ _ (withφ_self _ _ _) hn⟩
  have h0 : ¬ (n * sz = 0) := by omega
  simp only [execOp, ho, Instr.buildSlice, Sem.run_bind, pureEval_run hu, pureEval_run hs, Result.andThen_ok]
  rw [if_neg (by omega)]
  simp only [h0, if_false, Sem.run_bind, pureEval_run hz, Sem.run_pure, Result.andThen_ok]
  rw [hout]
  simp only [newRow, newObj, Sem.run_bind, Sem.run, Sem.run_pure, Result.andThen_ok]
  rfl

theorem forget_obj (g : Good E H w0 w) (l : Nat) : Good E (H.set l .dead) w0 w ∧ ∀ k b, owns E (H.set l .dead) k b → owns E H k b ∧ k ≠ l := by
  have kill : ∀ k b, owns E (H.set l .dead) k b → owns E H k b ∧ k ≠ l := by
    intro k b h
    by_cases hk : l = k
    · subst hk
      have hlt := owns_len h
      unfold owns at h
      rw [List.getElem?_set_self (by simpa using hlt)] at h
      exact h.elim
    · refine ⟨?_, fun e => hk e.symm⟩
      unfold owns at h ⊢
      rwa [List.getElem?_set_ne hk] at h
  refine ⟨⟨g.below, fun h => g.snap h, fun {k o} h => ?_, fun {k k' b} h1 h2 => g.sep (kill _ _ h1).1 (kill _ _ h2).1, fun {k} h => g.fresh (by simpa using h), fun h => g.φlt h⟩, kill⟩
  by_cases hk : l = k
  · subst hk
    have hlt : l < H.length := by have := (List.getElem?_eq_some_iff.1 h).1; simpa using this
    rw [List.getElem?_set_self hlt] at h
    cases h
    exact trivial
  · rw [List.getElem?_set_ne hk] at h
    exact g.obj h

/-- Bytes of one's own, told to be of another type: they stay from then on. -/
theorem opA_convertMsl {t elem : TypeId} {p : Operand} {l n : Nat} {cs : List AV} (ho : o.op = .convert t t p) (hu : pureEval P (underlying t) = some (.slice elem)) (hu8 : pureEval P (underlying elem) = some (.int .u8)) (hp : opdA T p = .msl l 1 n) (hl : H[l]? = some (.cells cs)) (hcl : cs.length = n) (hlf : ∀ x ∈ cs, lf1 x = true) :
    OpA P o T H (.rsl false 1 n (rowOf 1 cs) .tight) (H.set l .dead) [l] := by
  refine opA_run fun E w0 w ρ hg ht => ?_
  have hr := ht p (by simp [ho, Op.operands])
  rw [hp] at hr
  generalize hv : ρ p = v at hr
  cases hr with
  | msl l sz n b hb hn =>
    obtain ⟨hbase, hS0, arr, ty, hh, hra⟩ := hg.obj hl b hb
    have hown : owns E H l b := by unfold owns; rw [hl]; exact hb
    obtain ⟨gk, kill⟩ := forget_obj hg l
    have hfree : ∀ k, ¬ owns E (H.set l .dead) k b := fun k hk => (kill k b hk).2 (hg.sep (kill k b hk).1 hown)
    have hblt : b < w.heap.size := (Array.getElem?_eq_some_iff.1 hh).1
    have hb1 : (w.freeze ⟨b, arr.size, none⟩ 1).heap[b]? = some (.cells arr ty (arr.size, arr.size + 1)) := by
      unfold World.freeze
      rw [if_neg (by omega)]
      simp only [Array.getElem?_modify, if_true, hh, Option.map_some]
      simp
    have hoth : ∀ c, c ≠ b → (w.freeze ⟨b, arr.size, none⟩ 1).heap[c]? = w.heap[c]? := by
      intro c hc
      simp [World.freeze, Array.getElem?_modify, Ne.symm hc]
    have hsize : (w.freeze ⟨b, arr.size, none⟩ 1).heap.size = w.heap.size := by simp [World.freeze]
    have g1 : Good E (H.set l .dead) w0 (w.freeze ⟨b, arr.size, none⟩ 1) := by
      refine ⟨gk.below.trans ⟨rfl, rfl, rfl, by rw [hsize]; exact Nat.le_refl _, fun k hk => hoth k (by omega)⟩, fun {c o u} h => ?_, fun {k q} h => ?_, gk.sep, gk.fresh, fun h => by rw [hsize]; exact gk.φlt h⟩
      · have hne : c ≠ b := fun e => by subst e; rw [hS0] at h; cases h
        rw [cell_same (hoth c hne)]
        exact gk.snap h
      · exact (gk.obj h).step h (.refl E) (fun _ h => h) (fun _ => rfl) (fun _ _ _ _ h => h) (fun c hc => hoth c (fun e => hfree k (e ▸ hc)))
    have g2 := g1.stay (b := b) (f := (arr[·]?)) hfree (fun o u h => by unfold World.cell?; rw [hb1]; simpa using h)
    have hSb : ∀ o, (E.withS b (arr[·]?)).S b o = arr[o]? := fun o => by simp [Env.withS, hS0 o]
    refine ⟨E.withS b (arr[·]?), .slice (some ⟨b, 0, none⟩) n n, w.freeze ⟨b, arr.size, none⟩ 1, ?_, ⟨withS_le _ _ _, by rw [hsize]; exact Nat.le_refl _, by simp, fun {k} hk hw => List.getElem?_set_ne (fun e => hw (by simp [e])), fun {k c} hk hw hc => hoth c (fun e => ?_), fun _ => rfl, fun {x} hx h => ⟨hoth x (fun e => h l (e ▸ hown)), fun k ho => ?_, fun o => ?_⟩⟩, g2, ?_⟩
    · have hsh : World.shape? w b = some (ty, arr.size) := by
        unfold World.shape?
        rw [hh]
      simp only [execOp, ho, hv, convert, Sem.run_bind, pureEval_run hu, pureEval_run hu8, Result.andThen_ok, beq_self_eq_true, markStringish, shape, freeze, Sem.run, hsh, Sem.run_pure]
    · subst e
      have := hg.sep hc hown
      subst this
      exact hw (by simp)
    · have ho' : owns E (H.set l .dead) k x := ho
      exact h k (kill k x ho').1
    · have hne : x ≠ b := fun e => h l (e ▸ hown)
      simp [Env.withS, hne]
    · refine .rsl 1 n _ .tight b 0 n (fun i j => arr.getD (i * 1 + j) undef) hn rfl (Nat.le_refl _) (fun i hi => rowOf_length (by simpa using hcl) hi) (fun i hi x hx => lf1_one (hlf x (List.mem_of_mem_drop (List.mem_of_mem_take hx)))) (fun i hi j x hj => ?_) (fun i hi j x hj => ?_)
      · have hj' := rowOf_get hj
        obtain ⟨u, hu, _⟩ := hra _ x hj'
        rw [hSb, Nat.zero_add, hu]
        simp only [Array.getD_eq_getD_getElem?, hu, Option.getD_some]
      · have hj' := rowOf_get hj
        obtain ⟨u, hu, hrel⟩ := hra _ x hj'
        have e : arr.getD (i * 1 + j) undef = u := by simp only [Array.getD_eq_getD_getElem?, hu]; rfl
        rw [e]
        exact hrel.lf (lf1_LF (hlf x (List.mem_of_getElem? hj'))) (fun h => (withS_le E b (arr[·]?)).S h)

/-- An append of one thing to none, kept as a row that may be written. -/
theorem opA_append1 {c : Call} {p q : Operand} {sz bytes : Nat} {nl : Bool} {el el2 : Nat → List AV} {own : Own} {sz' : Nat} (hc : AppT P c p q sz bytes) (ho : o.op = .call c) (hp : opdA T p = .rsl nl sz' 0 el own) (hq : srcA sz (opdA T q) = some (1, el2))
    (hown : own = .tight ∨ nl = true) (hbig : (0 + 1) * bytes ≤ 2 ^ 46) : OpA P o T H (.asl H.length sz 1) (H ++ [.cells (el2 0)]) [] := by
  refine opA_run fun E w0 w ρ hg ht => ?_
  have hr := ht p (by simp [ho, Op.operands, Call.operands, hc.args])
  rw [hp] at hr
  generalize hv : ρ p = v at hr
  have key : ∃ A k own', v = .slice A 0 k ∧ k < 0 + 1 ∧ Rel E (.rsl nl sz 0 el own') v := by
    cases hr with
    | rnil _ _ _ h => exact ⟨_, _, own, rfl, by omega, .rnil _ _ _ h⟩
    | rodd _ _ _ a h => exact ⟨_, _, own, rfl, by omega, .rodd _ _ _ a h⟩
    | rsl _ _ _ _ b off k u hn ho' hkc hl h1 hS hk' =>
      rcases hown with rfl | h
      · have : k = 0 := ho'
        subst this
        exact ⟨_, _, .tight, rfl, by omega, .rsl sz 0 el _ b off 0 u hn rfl (Nat.le_refl _) (fun i hi => by omega) (fun i hi => by omega) (fun i hi => by omega) (fun i hi => by omega)⟩
      · cases h
  obtain ⟨A, k, own', rfl, hk, hr'⟩ := key
  obtain ⟨c', us, vs, Z, elem, h1, h2, h3, h4, h5, hrun⟩ := append_run hc (ht q (by simp [ho, Op.operands, Call.operands, hc.args])) hg ho (hv ▸ hr') hv hq hk hbig (by omega)
  have hus : us = [] := by
    cases us with
    | nil => rfl
    | cons a r => simp at h2
  subst hus
  have g1 : Good E H w0 w.drew := hg.drew
  have hcell : RelCells E (el2 0) (([] : List Value).toArray ++ vs.toArray ++ Z) := by
    intro j x hj
    have hrel := h5 0 (by omega) j x hj
    have hjl : j < vs.length := by
      have := (List.getElem?_eq_some_iff.1 hj).1
      rw [(h4 0 (by omega)).1] at this
      omega
    refine ⟨vs.getD j undef, ?_, ?_⟩
    · rw [Array.getElem?_append_left (by simpa using hjl)]
      simp [List.getD_eq_getElem?_getD, List.getElem?_eq_getElem hjl]
    · rw [Nat.zero_mul, Nat.zero_add] at hrel
      exact hrel.mono (Env.data_le E)
  refine ⟨E.withφ H.length w.drew.heap.size, _, _, hrun, (drew_ext _ _).trans (new_ext _ _ (Nat.le_refl _) g1 _ _), g1.new elem hcell, .asl _ _ _ _ _ (withφ_self _ _ _) h1⟩
end
end Go.Proofs.YtiipaliigpkfhaaGreat.Ab
