/- Part 13: what an operation that writes or makes answers, as a function. -/
import Derived.Test.YtiipaliigpkfhaaGreatB3
set_option linter.unusedVariables false
set_option linter.unusedSimpArgs false
namespace Go.Proofs.YtiipaliigpkfhaaGreat.Ab
open Go Go.RowKit

/-- A row's token is let go. -/
def untok : AV → AV
  | .rsl nl sz n el (.tok _) => .rsl nl sz n el .non
  | x => x

theorem untok_rel {E : Env} {x : AV} {v : Value} (h : Rel E x v) : Rel E (untok x) v := by
  cases h with
  | rnil sz el own h => rcases h with rfl | rfl <;> exact .rnil sz el _ (by simp)
  | rodd sz el own a h => rcases h with rfl | rfl <;> exact .rodd sz el _ a (by simp)
  | rsl sz n el own b off c u hn ho hc hl h1 hS hk =>
    cases own with
    | non => exact .rsl sz n el _ b off c u hn ho hc hl h1 hS hk
    | tight => exact .rsl sz n el _ b off c u hn ho hc hl h1 hS hk
    | tok t => exact .rsl sz n el .non b off c u hn hc hc hl h1 hS hk
  | any v => exact .any v
  | sc v h => exact .sc v h
  | ptr l o b h => exact .ptr l o b h
  | rptr cs b off u h k => exact .rptr cs b off u h k
  | fn f a b us vs h1 h2 k1 k2 => exact .fn f a b us vs h1 h2 k1 k2
  | ifc t x v k => exact .ifc t x v k
  | agg cs us h k => exact .agg cs us h k
  | tup cs us h k => exact .tup cs us h k
  | mapr l b h => exact .mapr l b h
  | stamp l i n h => exact .stamp l i n h
  | msl l sz n b h hn => exact .msl l sz n b h hn

/-- A cell of a row: it bears no label. -/
def lf1 : AV → Bool
  | .sc _ => true
  | .rptr _ => true
  | .rsl _ _ _ _ own => match own with
    | .tok _ => false
    | _ => true
  | _ => false

theorem lf1_LF {x : AV} (h : lf1 x = true) : LF x := by
  cases x with
  | sc v => exact .sc v
  | rptr cs => exact .rptr cs
  | rsl nl sz n el own => exact .rsl nl sz n el own (fun t e => by subst e; simp [lf1] at h)
  | _ => simp [lf1] at h

theorem lf1_one {x : AV} (h : lf1 x = true) : oneC x = true := by
  cases x <;> simp [lf1] at h <;> rfl

section
variable {P : Program} {o : Oper} {T : List AV} {H : AHeap}

theorem opA_buildSlice' {t elem : TypeId} {n sz : Nat} {ps : Array (Nat × Operand)} {z : Value} {zs cs : List AV} (ho : o.op = .buildSlice t n ps) (hu : pureEval P (underlying t) = some (.slice elem)) (hs : pureEval P (Go.sizeOf elem) = some sz)
    (hz : pureEval P (zeroValue elem) = some z) (hzc : (constA z).cells = zs) (hzn : notAny (constA z) = true) (hzl : 0 < zs.length) (hbig : n * sz ≤ 2 ^ 24)
    (hf : fillA (fun i => some (i * sz, sz)) ((List.range (n * sz)).map fun i => zs.getD (i % zs.length) .any) (ps.toList.map fun (i, x) => (i, opdA T x)) = some cs)
    (hcl : cs.length = n * sz) (hlf : ∀ x ∈ cs, lf1 (untok x) = true) (hn : n ≤ maxLen) : OpA P o T H (.rsl false sz n (rowOf sz (cs.map untok)) .tight) H [] := by
  refine opA_run fun E w0 w ρ hg ht => ?_
  have hzr := constA_rel E _ z (Nat.lt_succ_self _)
  have hzra : RA E zs z.cells := hzc ▸ cells_rel hzr hzn
  obtain ⟨hl, hr⟩ := parts_rel ps (fun y hy => ht y.2 (by simp only [ho, Op.operands]; simp only [List.mem_toArray, List.mem_map]; exact ⟨y, by simpa using hy, rfl⟩))
  obtain ⟨out, hout, hra0⟩ := fill_RA _ _ _ _ _ (zeros_RA hzra (n * sz) (.inr hzl)) hl hr hf
  have hra : RA E (cs.map untok) out := ⟨by simpa using hra0.1, fun j x hj => by
    rw [List.getElem?_map] at hj
    cases hc : cs[j]? with
    | none => rw [hc] at hj; cases hj
    | some y => rw [hc] at hj; cases hj; exact untok_rel (hra0.2 j y hc)⟩
  have hlf' : ∀ x ∈ cs.map untok, lf1 x = true := by
    intro x hx
    rw [List.mem_map] at hx
    obtain ⟨y, hy, rfl⟩ := hx
    exact hlf y hy
  have hcl' : (cs.map untok).length = n * sz := by simpa using hcl
  refine ⟨E.withS w.heap.size (out[·]?), .slice (some ⟨w.heap.size, 0, none⟩) n n, w.alloc (.cells out elem), ?_, row_ext _ _ hg out elem, hg.row out elem, ?_⟩
  · simp only [execOp, ho, Instr.buildSlice, Sem.run_bind, pureEval_run hu, pureEval_run hs, Result.andThen_ok]
    rw [if_neg (by omega)]
    by_cases h0 : n * sz = 0
    · simp only [h0, if_true, Sem.run_pure, Result.andThen_ok]
      have e : (Array.range 0).map ((#[] : Array Value)[· % (#[] : Array Value).size]!) = (Array.range (n * sz)).map (z.cells[· % z.cells.size]!) := by rw [h0]; simp
      simp only [Sem.run_bind, Sem.run_pure, Result.andThen_ok] at *
      rw [e, hout]
      simp only [newRow, newObj, Sem.run_bind, Sem.run, Sem.run_pure, Result.andThen_ok]
      rfl
    · simp only [h0, if_false, Sem.run_bind, pureEval_run hz, Sem.run_pure, Result.andThen_ok]
      rw [hout]
      simp only [newRow, newObj, Sem.run_bind, Sem.run, Sem.run_pure, Result.andThen_ok]
      rfl
  · have hos : out.size = n * sz := by rw [hra.1, hcl']
    have hle := withS_le E w.heap.size (out[·]?)
    refine .rsl sz n _ .tight w.heap.size 0 n (fun i j => out.getD (i * sz + j) undef) hn rfl (Nat.le_refl _) (fun i hi => rowOf_length hcl' hi) (fun i hi x hx => lf1_one (hlf' x (List.mem_of_mem_drop (List.mem_of_mem_take hx)))) (fun i hi j x hj => ?_) (fun i hi j x hj => ?_)
    · have hj' := rowOf_get hj
      rw [row_S hg, Nat.zero_add]
      have hlt : i * sz + j < out.size := by rw [hra.1]; exact (List.getElem?_eq_some_iff.1 hj').1
      simp [Array.getD_eq_getD_getElem?, hlt]
    · have hj' := rowOf_get hj
      exact ((hra.2 _ x hj').data (lf1_LF (hlf' x (List.mem_of_getElem? hj')))).mono hle.data

/-- A new row that may be written. -/
theorem opA_makeSlice {t elem : TypeId} {p q : Operand} {k k2 : IntKind} {n sz : Nat} {i : TypeInfo} {z : Value} {zs : List AV} (ho : o.op = .makeSlice t p q) (hu : pureEval P (underlying t) = some (.slice elem)) (hs : pureEval P (Go.sizeOf elem) = some sz)
    (hi : pureEval P (typeInfo elem) = some i) (hz : pureEval P (zeroValue elem) = some z) (hzc : (constA z).cells = zs) (hzn : notAny (constA z) = true) (hzl : 0 < zs.length) (hp : opdA T p = .sc (.int k n)) (hq : opdA T q = .sc (.int k2 n))
    (hbig : i.bytes * n ≤ 2 ^ 24 ∧ n ≤ 2 ^ 24 ∧ 0 < n * sz) : OpA P o T H (.msl H.length sz n) (H ++ [.cells ((List.range (n * sz)).map fun i => zs.getD (i % zs.length) .any)]) [] := by
  refine opA_run fun E w0 w ρ hg ht => ?_
  have hrp := ht p (by simp [ho, Op.operands])
  rw [hp] at hrp
  have hrq := ht q (by simp [ho, Op.operands])
  rw [hq] at hrq
  generalize hv : ρ p = v at hrp
  generalize hw : ρ q = u at hrq
  cases hrp
  cases hrq
  have hzra : RA E zs z.cells := hzc ▸ cells_rel (constA_rel E _ z (Nat.lt_succ_self _)) hzn
  have hra := zeros_RA hzra (n * sz) (.inr hzl)
  have hwrap : IntKind.wrap .i64 (n : Int) = n := by
    have : (n : Int) % 18446744073709551616 = n := Int.emod_eq_of_lt (by omega) (by omega)
    simp only [IntKind.wrap, IntKind.bits, IntKind.signed]
    simp [this]
    omega
  refine ⟨E.withφ H.length w.heap.size, .slice (some ⟨w.heap.size, 0, none⟩) n n, w.alloc (.cells ((Array.range (n * sz)).map (z.cells[· % z.cells.size]!)) elem), ?_, new_ext _ _ (Nat.le_refl _) hg _ _, hg.new elem hra.cells, .msl _ _ _ _ (withφ_self _ _ _) (by unfold maxLen; omega)⟩
  have hbytes : ¬ ((i.bytes : Int) * (n : Int) > 2 ^ 48) := by
    have : ((i.bytes * n : Nat) : Int) = (i.bytes : Int) * (n : Int) := by simp
    omega
  have hneg : ¬ ((n : Int) < 0) := by omega
  have hself : ¬ ((n : Int) > (n : Int)) := by omega
  have hne : ¬ (n * sz = 0) := by omega
  simp only [execOp, ho, Instr.makeSlice, hv, hw, asInt, asIntOf, Sem.run_bind, pureEval_run hu, pureEval_run hs, pureEval_run hi, pureEval_run hz, Result.andThen_ok, Sem.run_pure, hwrap]
  simp only [hneg, hbytes, hself, decide_false, Bool.or_false, Bool.false_eq_true, if_false]
  have hask : (Sem.run P (askRoom (n * i.bytes)) w) = .ok () w := by
    unfold askRoom
    split
    · rfl
    · rfl
  simp only [Int.toNat_natCast, hask, Result.andThen_ok, hne, if_false, Sem.run_bind, pureEval_run hz, pureEval_run hs, Sem.run_pure]
  simp only [newRow, newObj, Sem.run_bind, Sem.run, Sem.run_pure, Result.andThen_ok]
  rfl

def notInt : TypeDesc → Bool
  | .int _ => false
  | _ => true

def isU8 (P : Program) (e : TypeId) : Bool :=
  match pureEval P (underlying e) with
  | some (.int .u8) => true
  | _ => false

theorem isU8_eq {e : TypeId} (h : isU8 P e = true) : pureEval P (underlying e) = some (.int .u8) := by
  unfold isU8 at h
  split at h
  · assumption
  · cases h

/-- What is known of the types at an append. -/
def appTT (P : Program) (t t2 : TypeId) : Option (Nat × Nat) :=
  match pureEval P (underlying t), pureEval P (underlying t2) with
  | some (.slice elem), some d =>
    match pureEval P (Go.sizeOf elem), pureEval P (typeInfo elem), pureEval P (zeroValue elem) with
    | some sz, some i, some z => if z.cells.size = sz ∧ notInt d = true then some (sz, i.bytes) else none
    | _, _, _ => none
  | _, _ => none

def appT (P : Program) (c : Call) : Option (Nat × Nat) :=
  match c.argTypes.toList with
  | [t, t2] => appTT P t t2
  | _ => none

theorem appT_ok {c : Call} {p q : Operand} {sz bytes : Nat} (hcal : c.callee = .builtin .append) (hargs : c.args.toList = [p, q]) (h : appT P c = some (sz, bytes)) : AppT P c p q sz bytes := by
  unfold appT at h
  split at h
  · rename_i t t2 hat
    unfold appTT at h
    split at h
    · rename_i elem d hu hd
      split at h
      · rename_i sz' i z hs hi hz
        split at h
        · rename_i hc
          cases h
          refine ⟨hcal, by apply Array.ext'; simpa using hargs, t, t2, elem, i, z, d, by apply Array.ext'; simpa using hat, hu, hs, hi, rfl, hz, hc.1, hd, fun k e => ?_⟩
          subst e
          simp [notInt] at hc
        · cases h
      · cases h
    · cases h
  · cases h

def appX (P : Program) (c : Call) (T : List AV) (H : AHeap) : Option (AV × AHeap × List Nat) :=
  match c.args.toList, appT P c with
  | [p, q], some (sz, bytes) =>
    match opdA T p, srcA sz (opdA T q) with
    | .rsl nl sz' n el own, some (m, el2) =>
      if m = 0 then some (.rsl nl sz' n el own, H, [])
      else if (n + m) * bytes ≤ 2 ^ 46 ∧ n + m < 2 ^ 62 then
        match own with
        | .tok t => match H[t]? with
          | some (.tail n' sz2) => if n' = n ∧ sz2 = sz ∧ sz' = sz then some (.rsl false sz (n + m) (catEl n el el2) (.tok t), H.set t (.tail (n + m) sz), [t]) else none
          | _ => none
        | .tight => if n = 0 ∨ sz' = sz then some (.rsl false sz (n + m) (catEl n el el2) (.tok H.length), H ++ [.tail (n + m) sz], []) else none
        | .non => if nl = true ∧ (n = 0 ∨ sz' = sz) then some (.rsl false sz (n + m) (catEl n el el2) (.tok H.length), H ++ [.tail (n + m) sz], []) else none
      else none
    | _, _ => none
  | _, _ => none

theorem appX_sound {c : Call} {x : AV} {H' : AHeap} {Wr : List Nat} (ho : o.op = .call c) (hcal : c.callee = .builtin .append) (h : appX P c T H = some (x, H', Wr)) : OpA P o T H x H' Wr := by
  unfold appX at h
  split at h
  · rename_i p q sz bytes hargs hT
    have hA := appT_ok hcal hargs hT
    split at h
    · rename_i nl sz' n el own m el2 hp hq
      split at h
      · rename_i hm
        subst hm
        cases h
        exact (opS_append_none hA ho hp hq).a
      · rename_i hm
        split at h
        · rename_i hb
          split at h
          · rename_i t
            split at h
            · rename_i n' sz2 hH
              split at h
              · rename_i hc
                obtain ⟨rfl, rfl, rfl⟩ := hc
                cases h
                exact opA_append_tok hA ho hp hq hH (by omega) hb.1 hb.2
              · cases h
            · cases h
          · split at h
            · rename_i hc
              cases h
              exact opA_append_new hA ho hp hq (.inl rfl) hc (by omega) hb.1 hb.2
            · cases h
          · split at h
            · rename_i hc
              cases h
              exact opA_append_new hA ho hp hq (.inr hc.1) hc.2 (by omega) hb.1 hb.2
            · cases h
        · cases h
    · cases h
  · cases h

def stepX (P : Program) (o : Oper) (T : List AV) (H : AHeap) : Option (AV × AHeap × List Nat) :=
  match o.op with
  | .box _ q => if notAny (opdA T q) then some (.ptr H.length 0, H ++ [.cells (opdA T q).cells], []) else none
  | .alloc t => match pureEval P (zeroValue t) with
    | some z => if notAny (constA z) then some (.ptr H.length 0, H ++ [.cells (constA z).cells], []) else none
    | none => none
  | .store t p q => match opdA T p with
    | .ptr l off => match H[l]? with
      | some (.cells cs) =>
        if notAny (opdA T q) = true ∧ pureEval P (Go.sizeOf t) = some (opdA T q).cells.length ∧ (opdA T q).cells.all oneC = true ∧ off + (opdA T q).cells.length ≤ cs.length then
          some (.any, H.set l (.cells (setMany cs off (opdA T q).cells)), [l]) else none
      | _ => none
    | _ => none
  | .buildSlice t n ps => match pureEval P (underlying t) with
    | some (.slice elem) => match pureEval P (Go.sizeOf elem), pureEval P (zeroValue elem) with
      | some sz, some z =>
        match fillA (fun i => some (i * sz, sz)) ((List.range (n * sz)).map fun i => (constA z).cells.getD (i % (constA z).cells.length) .any) (ps.toList.map fun (i, x) => (i, opdA T x)) with
        | some cs => if notAny (constA z) = true ∧ 0 < (constA z).cells.length ∧ n * sz ≤ 2 ^ 24 ∧ cs.length = n * sz ∧ cs.all (fun x => lf1 (untok x)) = true ∧ n ≤ maxLen then some (.rsl false sz n (rowOf sz (cs.map untok)) .tight, H, []) else none
        | none => none
      | _, _ => none
    | _ => none
  | .convert src dst p => match pureEval P (underlying src), pureEval P (underlying dst), opdA T p with
    | some .string, some (.slice e), .sc (.string s) => if isU8 P e = true ∧ s.size < 2 ^ 62 then some (.rsl false 1 s.size (strEl s) .non, H, []) else none
    | _, _, _ => none
  | .call c => match c.callee with
    | .builtin .append => appX P c T H
    | _ => none
  | .makeSlice t p q => match pureEval P (underlying t), opdA T p, opdA T q with
    | some (.slice elem), .sc (.int _ (.ofNat n)), .sc (.int _ (.ofNat n2)) => match pureEval P (Go.sizeOf elem), pureEval P (typeInfo elem), pureEval P (zeroValue elem) with
      | some sz, some i, some z => if n2 = n ∧ notAny (constA z) = true ∧ 0 < (constA z).cells.length ∧ i.bytes * n ≤ 2 ^ 24 ∧ n ≤ 2 ^ 24 ∧ 0 < n * sz then
          some (.msl H.length sz n, H ++ [.cells ((List.range (n * sz)).map fun i => (constA z).cells.getD (i % (constA z).cells.length) .any)], []) else none
      | _, _, _ => none
    | _, _, _ => none
  | _ => none

theorem stepX_sound {x : AV} {H' : AHeap} {Wr : List Nat} (h : stepX P o T H = some (x, H', Wr)) : OpA P o T H x H' Wr := by
  unfold stepX at h
  split at h
  · rename_i t q ho
    split at h
    · rename_i hn; cases h; exact opA_box ho rfl hn
    · cases h
  · rename_i t ho
    split at h
    · rename_i z hz
      split at h
      · rename_i hn; cases h; exact opA_alloc ho hz rfl hn
      · cases h
    · cases h
  · rename_i t p q ho
    split at h
    · rename_i l off hp
      split at h
      · rename_i cs hl
        split at h
        · rename_i hc
          cases h
          exact opA_store ho hp hl rfl hc.1 hc.2.1 (by simpa using hc.2.2.1) hc.2.2.2
        · cases h
      · cases h
    · cases h
  · rename_i t n ps ho
    split at h
    · rename_i elem hu
      split at h
      · rename_i sz z hs hz
        split at h
        · rename_i cs hf
          split at h
          · rename_i hc
            cases h
            exact opA_buildSlice' ho hu hs hz rfl hc.1 hc.2.1 hc.2.2.1 hf hc.2.2.2.1 (by simpa using hc.2.2.2.2.1) hc.2.2.2.2.2
          · cases h
        · cases h
      · cases h
    · cases h
  · rename_i src dst p ho
    split at h
    · rename_i e s hu1 hu2 hp
      split at h
      · rename_i hc; cases h; exact opA_strBytes ho hu1 hu2 (isU8_eq hc.1) hp hc.2
      · cases h
    · cases h
  · rename_i c ho
    split at h
    · rename_i hc; exact appX_sound ho hc h
    · cases h
  · rename_i t p q ho
    split at h
    · rename_i elem k n k2 n2 hu hp hq
      split at h
      · rename_i sz i z hs hi hz
        split at h
        · rename_i hc
          obtain ⟨rfl, h1, h2, h3⟩ := hc
          cases h
          exact opA_makeSlice ho hu hs hi hz rfl h1 h2 hp hq h3
        · cases h
      · cases h
    · cases h
  · cases h

/-- Any operation but calls. -/
def stepA (P : Program) (o : Oper) (T : List AV) (H : AHeap) : Option (AV × AHeap × List Nat) :=
  match stepS P o T H with
  | some x => some (x, H, [])
  | none => stepX P o T H

theorem stepA_sound {x : AV} {H' : AHeap} {Wr : List Nat} (h : stepA P o T H = some (x, H', Wr)) : OpA P o T H x H' Wr := by
  unfold stepA at h
  split at h
  · rename_i y hy; cases h; exact (stepS_sound hy).a
  · exact stepX_sound h
end
end Go.Proofs.YtiipaliigpkfhaaGreat.Ab
