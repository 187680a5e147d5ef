/- A field as bytes: what is answered. -/
import Derived.Test.YtiipaliigpkfhaaGreatM7
set_option linter.unusedVariables false
set_option linter.unusedSimpArgs false
set_option maxRecDepth 100000
namespace Go.Proofs.YtiipaliigpkfhaaGreat.Ab
open Go Go.RowKit Go.Proofs

theorem catW {l1 l2 : List Int} {el1 el2 : Nat → List AV} (h1 : ∀ i, i < l1.length → el1 i = bEl l1 i) (h2 : ∀ i, i < l2.length → el2 i = bEl l2 i) : ∀ i, i < (l1 ++ l2).length → catEl l1.length el1 el2 i = bEl (l1 ++ l2) i := by
  intro i hi
  unfold catEl
  by_cases h : i < l1.length
  · rw [if_pos h, h1 i h]
    simp [bEl, List.getD_eq_getElem?_getD, List.getElem?_append_left h]
  · rw [if_neg h, h2 (i - l1.length) (by simp at hi; omega)]
    simp [bEl, List.getD_eq_getElem?_getD, List.getElem?_append_right (Nat.le_of_not_lt h)]

/-- Behind bytes come more bytes. -/
theorem appB_ok {n1 m : Nat} {el1 el2 : Nat → List AV} {l1 l2 : List Int} {K : Nat → (Nat → List AV) → Option AV} {C : Option AV → Prop} (hn : n1 = l1.length) (hm : m = l2.length) (h1 : ∀ i, i < l1.length → el1 i = bEl l1 i) (h2 : ∀ i, i < l2.length → el2 i = bEl l2 i) (hs : l1.length + l2.length ≤ 10000)
    (hK : ∀ el, (∀ i, i < (l1 ++ l2).length → el i = bEl (l1 ++ l2) i) → C (K (l1 ++ l2).length el)) : C (appB n1 el1 m el2 K) := by
  subst hn hm
  unfold appB
  by_cases h0 : l2.length = 0
  · rw [decide_eq_true h0]
    have : l2 = [] := List.length_eq_zero_iff.1 h0
    subst this
    have := hK el1 (by simpa using h1)
    simpa using this
  · rw [decide_eq_false h0, decide_eq_true (by omega : (l1.length + l2.length) * 1 ≤ 70368744177664 ∧ l1.length + l2.length < 4611686018427387904), decide_eq_true (rfl : l1.length = l1.length)]
    have := hK _ (catW h1 h2)
    rw [List.length_append] at this
    exact this

def bytesOf (m : Nat) (y : Nat → Int) : List Int := (List.range m).map y
theorem bytesOf_len (m : Nat) (y : Nat → Int) : (bytesOf m y).length = m := by simp [bytesOf]
theorem bytesOf_el (m : Nat) (y : Nat → Int) : ∀ i, i < (bytesOf m y).length → ([.sc (.int .u8 (y i))] : List AV) = bEl (bytesOf m y) i := by
  intro i hi
  simp [bytesOf] at hi
  simp [bEl, bytesOf, List.getD_eq_getElem?_getD, hi]

/-- The bytes of a field. -/
noncomputable def payL (r : RawD) : List Int := if r.kd = 0 then shortL r.nn else if r.kd = 1 then fixL 8 r.nn else if r.kd = 5 then fixL 4 r.nn else shortL r.m ++ bytesOf r.m r.y
noncomputable def putL (r : RawD) : List Int := shortL (r.num * 8 + r.kd) ++ payL r

theorem putL_len {r : RawD} (h : RawOk r) : (putL r).length ≤ 530 ∧ 0 < (putL r).length := by
  have h1 := h.num0; have h2 := h.num1; have h3 := h.kd
  have a := shortL_len (N := r.num * 8 + r.kd) (by omega) (by omega)
  have b := shortL_len h.nn0 h.nn1
  have c := shortL_len (N := (r.m : Int)) (by omega) (by have := h.m; omega)
  have m5 := h.m
  have f8 : (fixL 8 r.nn).length = 8 := rfl
  have f4 : (fixL 4 r.nn).length = 4 := rfl
  unfold putL payL
  rw [List.length_append]
  split
  · omega
  · split
    · omega
    · split
      · omega
      · rw [List.length_append, bytesOf_len]; omega

theorem tagP_eq {num kd : Int} (h0 : 1 ≤ num) (h1 : num < 536870912) (hk : kd = 0 ∨ kd = 1 ∨ kd = 2 ∨ kd = 5) : tagP num kd = num * 8 + kd := by
  unfold tagP orI
  rw [wu (x := num) (by omega) (by omega), wu (x := kd) (by omega) (by omega)]
  have e8 : num * 2 ^ 3 = num * 8 := rfl
  rw [e8, wu (x := num * 8) (by omega) (by omega)]
  have e : (BitVec.ofInt (IntKind.bits .u64) (num * 8) ||| BitVec.ofInt (IntKind.bits .u64) kd).toNat = num.toNat * 8 + kd.toNat := by
    rw [BitVec.toNat_or]
    have a : (BitVec.ofInt (IntKind.bits .u64) (num * 8)).toNat = 2 ^ 3 * num.toNat := by
      show (BitVec.ofInt 64 (num * 8)).toNat = 2 ^ 3 * num.toNat
      rw [BitVec.toNat_ofInt]
      omega
    have b : (BitVec.ofInt (IntKind.bits .u64) kd).toNat = kd.toNat := by
      show (BitVec.ofInt 64 kd).toNat = kd.toNat
      rw [BitVec.toNat_ofInt]
      omega
    rw [a, b, ← Nat.two_pow_add_eq_or_of_lt (by omega : kd.toNat < 2 ^ 3)]
    omega
  rw [e]
  rw [wu (by omega) (by omega)]
  omega

theorem tagR_eq {num kd : Int} (h0 : 1 ≤ num) (h1 : num < 536870912) (hk : kd = 0 ∨ kd = 1 ∨ kd = 2 ∨ kd = 5) : tagR num kd = num * 8 + kd := by
  unfold tagR
  rw [wi (x := 8 * num) (by omega) (by omega), wi (x := 8 * num + kd) (by omega) (by omega), wu (by omega) (by omega)]
  omega

theorem wk_put {l : List Int} {n : Nat} {el : Nat → List AV} {own : Own} (hn : n = l.length) (h : ∀ i, i < l.length → el i = bEl l i) : Wk1 (.tup [.rsl false 1 n el own, i64 0]) (.tup [rowBy l, i64 0]) := by
  subst hn
  exact .tup (.cons (Wk1.row h) (.cons (.refl _) .nil))

theorem lf_put (l : List Int) : LF (.tup [rowBy l, i64 0]) ∧ lbA 0 (.tup [rowBy l, i64 0]) = true := ⟨.tup _ (fun x hx => by
  simp only [List.mem_cons, List.not_mem_nil, or_false] at hx
  rcases hx with rfl | rfl
  · exact .rsl _ _ _ _ _ (by simp)
  · exact .sc _), rfl⟩

/-- One of the four kinds. -/
theorem put_close {g c c2 : FuncId} {num nn kd : Int} {b : Bool} {m : Nat} {y : Nat → Int} {l2 : List Int} {s0 s1 : Nat} {tag : Int} {args : List AV} {K : Option AV} (h0 : 1 ≤ num) (h1 : num < 536870912) (hk : kd = 0 ∨ kd = 1 ∨ kd = 2 ∨ kd = 5)
    (tree : evP1 num nn b m y (shortL (num * 8 + kd)) l2 g s0 s1 kd = putE num nn b m y (shortL (num * 8 + kd)) l2 c c2 kd tag args K) (htag : tag = num * 8 + kd)
    (hc : ∀ cs, Ctr Tryz.prog c [.sc (.int .u64 (num * 8 + kd))] (rowT (shortL (num * 8 + kd)) 1) [.cells cs] [.cells cs, .tail (shortL (num * 8 + kd)).length 1] []) (hc2 : Ctr Tryz.prog c2 args (rowBy l2) [] [] []) {l : List Int}
    (hK : ∃ u, K = some u ∧ Wk1 u (.tup [rowBy l, i64 0])) (H : AHeap) : Ctr Tryz.prog g [.agg (RawD.cells b ⟨num, kd, nn, m, y⟩)] (.tup [rowBy l, i64 0]) H H [] := by
  obtain ⟨u, rfl, hu⟩ := hK
  unfold putE at tree
  rw [htag, decide_eq_false (by omega : ¬ num < 1), decide_eq_false (by omega : ¬ num > 536870911), askFn_of (hc _), askCall_of hc2] at tree
  exact ctr_lfk mixed (noneT_ok _) (only_ok (toldE_ok told_ok)) tree rfl (fun r => .refl _) hu (lf_put l).1 (lf_put l).2 rfl H

theorem app1_ok (lt l2 : List Int) (hs : lt.length + l2.length ≤ 10000) : ∃ u, app1 lt l2 = some u ∧ Wk1 u (.tup [rowBy (lt ++ l2), i64 0]) :=
  appB_ok (C := fun o => ∃ u, o = some u ∧ Wk1 u (.tup [rowBy (lt ++ l2), i64 0])) rfl rfl (fun _ _ => rfl) (fun _ _ => rfl) hs (fun el hel => ⟨_, rfl, wk_put rfl hel⟩)
theorem app2_ok (m : Nat) (y : Nat → Int) (lt l2 : List Int) (hs : lt.length + l2.length + m ≤ 10000) : ∃ u, app2 m y lt l2 = some u ∧ Wk1 u (.tup [rowBy (lt ++ l2 ++ bytesOf m y), i64 0]) := by
  refine appB_ok (C := fun o => ∃ u, o = some u ∧ Wk1 u (.tup [rowBy (lt ++ l2 ++ bytesOf m y), i64 0])) rfl rfl (fun _ _ => rfl) (fun _ _ => rfl) (by omega) (fun el hel => ?_)
  exact appB_ok (C := fun o => ∃ u, o = some u ∧ Wk1 u (.tup [rowBy (lt ++ l2 ++ bytesOf m y), i64 0])) rfl (bytesOf_len m y).symm hel (bytesOf_el m y) (by rw [List.length_append, bytesOf_len]; omega) (fun el hel => ⟨_, rfl, wk_put rfl hel⟩)

theorem rowBy_I (l : List Int) : rowBy l = rowI false l := rfl

theorem put_ctr {r : RawD} (h : RawOk r) (b : Bool) (H : AHeap) : Ctr Tryz.prog 142 [.agg (r.cells b)] (.tup [rowBy (putL r), i64 0]) H H [] ∧ Ctr Tryz.prog 95 [.agg (r.cells b)] (.tup [rowBy (putL r), i64 0]) H H [] := by
  obtain ⟨num, kd, nn, m, y⟩ := r
  obtain ⟨h0, h1, hk, hn0, hn1, hm, hy⟩ := h
  simp only at h0 h1 hk hn0 hn1 hm hy
  have t0 : 0 ≤ num * 8 + kd := by omega
  have t1 : num * 8 + kd < 18446744073709551616 := by omega
  have lt := (shortL_len t0 t1).1
  have ln := (shortL_len hn0 hn1).1
  have m0 : (0 : Int) ≤ (m : Int) := by omega
  have m1 : (m : Int) < 18446744073709551616 := by omega
  have lm := (shortL_len m0 m1).1
  have tp := tagP_eq h0 h1 hk
  have tr := tagR_eq h0 h1 hk
  rcases hk with rfl | rfl | rfl | rfl
  · have e : putL ⟨num, 0, nn, m, y⟩ = shortL (num * 8 + 0) ++ shortL nn := rfl
    rw [e]
    exact ⟨put_close h0 h1 (by omega) (putP0 num nn b m y _ (shortL nn)) tp (shortPX t0 t1) (shortP hn0 hn1 []) (app1_ok _ _ (by omega)) H, put_close h0 h1 (by omega) (putR0 num nn b m y _ (shortL nn)) tr (shortRX t0 t1) (shortR hn0 hn1 []) (app1_ok _ _ (by omega)) H⟩
  · have e : putL ⟨num, 1, nn, m, y⟩ = shortL (num * 8 + 1) ++ fixL 8 nn := rfl
    have f8 : (fixL 8 nn).length = 8 := rfl
    rw [e]
    exact ⟨put_close h0 h1 (by omega) (putP1 num nn b m y _ (fixL 8 nn)) tp (shortPX t0 t1) (fix8P nn []) (app1_ok _ _ (by omega)) H, put_close h0 h1 (by omega) (putR1 num nn b m y _ (fixL 8 nn)) tr (shortRX t0 t1) (fix8R nn []) (app1_ok _ _ (by omega)) H⟩
  · have e : putL ⟨num, 2, nn, m, y⟩ = shortL (num * 8 + 2) ++ shortL m ++ bytesOf m y := by
      rw [List.append_assoc]; rfl
    have em : IntKind.wrap .u64 (m : Int) = (m : Int) := wu m0 m1
    rw [e]
    have pP := putP2 num nn b m y (shortL (num * 8 + 2)) (shortL m)
    have pR := putR2 num nn b m y (shortL (num * 8 + 2)) (shortL m)
    rw [em] at pP pR
    exact ⟨put_close h0 h1 (by omega) pP tp (shortPX t0 t1) (shortP m0 m1 []) (app2_ok m y _ _ (by omega)) H, put_close h0 h1 (by omega) pR tr (shortRX t0 t1) (shortR m0 m1 []) (app2_ok m y _ _ (by omega)) H⟩
  · have e : putL ⟨num, 5, nn, m, y⟩ = shortL (num * 8 + 5) ++ fixL 4 nn := rfl
    have f4 : (fixL 4 nn).length = 4 := rfl
    rw [e]
    exact ⟨put_close h0 h1 (by omega) (putP5 num nn b m y _ (fixL 4 nn)) tp (shortPX t0 t1) (fix4P nn []) (app1_ok _ _ (by omega)) H, put_close h0 h1 (by omega) (putR5 num nn b m y _ (fixL 4 nn)) tr (shortRX t0 t1) (fix4R nn []) (app1_ok _ _ (by omega)) H⟩

/-- Every field that is read may be written. -/
theorem Flds.ok {n : Nat} {x : Nat → Int} {p z : Nat} {l : List RawD} {e : Int} (h : Flds n x p l z e) : ∀ r ∈ l, RawOk r := by
  induction h with
  | done => intro r hr; simp at hr
  | err => intro r hr; simp at hr
  | next p r k l z e h tk rest ih =>
    intro q hq
    rcases List.mem_cons.1 hq with rfl | hq
    · exact tk.1.1
    · exact ih q hq
theorem Flds.len {n : Nat} {x : Nat → Int} {p z : Nat} {l : List RawD} {e : Int} (h : Flds n x p l z e) : l.length + p ≤ n := by
  induction h with
  | done => simp
  | err p e h tk => simp; omega
  | next p r k l z e h tk rest ih => have := tk.1.2; simp; omega
end Go.Proofs.YtiipaliigpkfhaaGreat.Ab
