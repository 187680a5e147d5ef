/- Fields as bytes, one behind the other: the document's function. -/
import Derived.Test.YtiipaliigpkfhaaGreatM8
set_option linter.unusedVariables false
set_option linter.unusedSimpArgs false
set_option maxRecDepth 100000
namespace Go.Proofs.YtiipaliigpkfhaaGreat.Ab
open Go Go.RowKit Go.Proofs

section
variable (nl : Bool) (f : RawD → Bool) (l : List RawD) (lp : List Int)
def T43 (out : AV) (i : Int) : List AV := tmA 28 [(2, nil0), (3, i64 0), (4, out), (9, .rsl nl 4 l.length (rawEl f l) .non), (10, i64 l.length), (11, i64 i)]
def ks43 : List Nat := [2, 3, 4, 9, 10, 11]
noncomputable def lo43 : LoopO := told Tryz.prog [] [⟨17, 0, .tup [rowBy lp, i64 0]⟩]

theorem first43 (i : Nat) : (evCT Tryz.prog (evGT Tryz.prog noneT 10) (lo43 lp) 10 (loopOf Tryz.f43 3) (T43 nl f l nil0 i) []).via (tidyK ks43 [0] 2) =
    bif decide ((i : Int) < (l.length : Int)) then bif decide ((0 : Int) ≤ (i : Int) ∧ (i : Int) < (l.length : Int)) then
      bif askCall Tryz.prog 95 [.agg (rawEl f l i)] [] (.tup [rowBy lp, i64 0]) then
        bif decide (lp.length = 0) then some ⟨.normal, T43 nl f l nil0 (IntKind.wrap .i64 ((i : Int) + 1)), [.dead], [0], true⟩ else
        bif decide ((0 + lp.length) * 1 ≤ 70368744177664 ∧ 0 + lp.length < 4611686018427387904) then some ⟨.normal, T43 nl f l (.rsl false 1 (0 + lp.length) (catEl 0 (fun _ => []) (bEl lp)) (.tok 1)) (IntKind.wrap .i64 ((i : Int) + 1)), [.dead, .tail (0 + lp.length) 1], [0], true⟩ else none
      else none else none
    else some ⟨.exit 0, T43 nl f l nil0 i, [], [], true⟩ := by kernel_rfl

theorem later43 (i c : Nat) (g : Nat → List AV) : (evCT Tryz.prog (evGT Tryz.prog noneT 10) (lo43 lp) 10 (loopOf Tryz.f43 3) (T43 nl f l (.rsl false 1 c g (.tok 1)) i) [.dead, .tail c 1]).via (tidyK ks43 [] 2) =
    bif decide ((i : Int) < (l.length : Int)) then bif decide ((0 : Int) ≤ (i : Int) ∧ (i : Int) < (l.length : Int)) then
      bif askCall Tryz.prog 95 [.agg (rawEl f l i)] [] (.tup [rowBy lp, i64 0]) then
        bif decide (lp.length = 0) then some ⟨.normal, T43 nl f l (.rsl false 1 c g (.tok 1)) (IntKind.wrap .i64 ((i : Int) + 1)), [.dead, .tail c 1], [], true⟩ else
        bif decide ((c + lp.length) * 1 ≤ 70368744177664 ∧ c + lp.length < 4611686018427387904) then bif decide (c = c) then some ⟨.normal, T43 nl f l (.rsl false 1 (c + lp.length) (catEl c g (bEl lp)) (.tok 1)) (IntKind.wrap .i64 ((i : Int) + 1)), [.dead, .tail (c + lp.length) 1], [1], true⟩ else none else none
      else none else none
    else some ⟨.exit 0, T43 nl f l (.rsl false 1 c g (.tok 1)) i, [.dead, .tail c 1], [], true⟩ := by kernel_rfl
end

/-! ### What grows -/
def gCat : Nat → (Nat → List AV) → List (List Int) → Nat → List AV
  | _, g, [] => g
  | c, g, lp :: L => gCat (c + lp.length) (catEl c g (bEl lp)) L

theorem gCat_ok : ∀ (L : List (List Int)) (acc : List Int) (g : Nat → List AV), (∀ i, i < acc.length → g i = bEl acc i) → ∀ i, i < (acc ++ L.flatten).length → gCat acc.length g L i = bEl (acc ++ L.flatten) i
  | [], acc, g, h => by simpa [gCat] using h
  | lp :: L, acc, g, h => by
    have := gCat_ok L (acc ++ lp) (catEl acc.length g (bEl lp)) (catW h (fun _ _ => rfl))
    simp only [gCat, List.flatten_cons]
    rw [List.append_assoc] at this
    rw [← List.length_append]
    exact this

noncomputable def outL (l : List RawD) : List Int := (l.map putL).flatten
theorem outL_len : ∀ l : List RawD, (∀ r ∈ l, RawOk r) → (outL l).length ≤ 530 * l.length
  | [], _ => by simp [outL]
  | r :: l, h => by
    have a := (putL_len (h r (List.mem_cons_self ..))).1
    have b := outL_len l (fun q hq => h q (List.mem_cons_of_mem _ hq))
    have : outL (r :: l) = putL r ++ outL l := by simp [outL]
    rw [this, List.length_append, List.length_cons]
    omega

theorem drop_getD {l : List RawD} {i : Nat} (h : i < l.length) : l.drop i = l.getD i raw0 :: l.drop (i + 1) := by
  rw [List.drop_eq_getElem_cons h]
  simp [List.getD_eq_getElem?_getD, h]

section
variable {nl : Bool} {f : RawD → Bool} {l : List RawD}

theorem ask95 (hl : ∀ r ∈ l, RawOk r) {i : Nat} (h : i < l.length) : askCall Tryz.prog 95 [.agg (rawEl f l i)] [] (.tup [rowBy (putL (l.getD i raw0)), i64 0]) = true := askCall_of (put_ctr (hl _ (getD_mem h)) _ []).2

theorem loop43 (hl : ∀ r ∈ l, RawOk r) (hn : l.length ≤ 500) : ∀ (d i c : Nat) (g : Nat → List AV), l.length - i = d → i ≤ l.length → c ≤ 530 * i → ∃ k W, Rounds Tryz.prog (loopOf Tryz.f43 3) (.exit 0) (T43 nl f l (.rsl false 1 (c + (outL (l.drop i)).length) (gCat c g ((l.drop i).map putL)) (.tok 1)) l.length) [.dead, .tail (c + (outL (l.drop i)).length) 1] k (T43 nl f l (.rsl false 1 c g (.tok 1)) i) [.dead, .tail c 1] W
  | 0, i, c, g, hd, hi, hc => by
    have : i = l.length := by omega
    subst this
    have hb := later43 nl f l [] l.length c g
    rw [decide_eq_false (by omega : ¬ (l.length : Int) < (l.length : Int))] at hb
    have := code_tidyK mixed (evGT_ok mixed (noneT_ok _) 10) told_ok hb rfl (Nat.le_refl _) (by simp)
    rw [List.drop_length]
    exact ⟨0, _, .out this (by simp)⟩
  | d + 1, i, c, g, hd, hi, hc => by
    have hlt : i < l.length := by omega
    have hr := putL_len (hl _ (getD_mem (d := raw0) hlt))
    have hb := later43 nl f l (putL (l.getD i raw0)) i c g
    rw [decide_eq_true (by omega : (i : Int) < (l.length : Int)), decide_eq_true (by omega : (0 : Int) ≤ (i : Int) ∧ (i : Int) < (l.length : Int)), ask95 hl hlt, decide_eq_false (by omega : ¬ (putL (l.getD i raw0)).length = 0),
      decide_eq_true (by omega : (c + (putL (l.getD i raw0)).length) * 1 ≤ 70368744177664 ∧ c + (putL (l.getD i raw0)).length < 4611686018427387904), decide_eq_true (rfl : c = c), wi (x := (i : Int) + 1) (by omega) (by omega)] at hb
    have := code_tidyK mixed (evGT_ok mixed (noneT_ok _) 10) told_ok hb rfl (Nat.le_refl _) (by simp)
    obtain ⟨k', W', hr'⟩ := loop43 hl hn d (i + 1) (c + (putL (l.getD i raw0)).length) (catEl c g (bEl (putL (l.getD i raw0)))) (by omega) (by omega) (by omega)
    have e1 : c + (outL (l.drop i)).length = c + (putL (l.getD i raw0)).length + (outL (l.drop (i + 1))).length := by
      rw [drop_getD hlt]; simp [outL]; omega
    have e2 : gCat c g ((l.drop i).map putL) = gCat (c + (putL (l.getD i raw0)).length) (catEl c g (bEl (putL (l.getD i raw0)))) ((l.drop (i + 1)).map putL) := by
      rw [drop_getD hlt]; rfl
    rw [e1, e2]
    exact ⟨k' + 1, _, .next this hr'⟩

/-- Bytes, or nothing. -/
noncomputable def outRow (l : List RawD) : AV := .rsl l.isEmpty 1 (outL l).length (bEl (outL l)) .non

theorem wk_out0 : Wk1 nil0 (outRow []) := by
  intro E v hr
  cases hr with
  | rnil => exact .rnil 1 _ .non (.inl rfl)

theorem all43 (hl : ∀ r ∈ l, RawOk r) (hn : l.length ≤ 500) : ∃ out H W, CodeOk Tryz.prog (.loop (loopOf Tryz.f43 3)) (T43 nl f l nil0 ((0 : Nat) : Int)) [] (.exit 0) (T43 nl f l out l.length) H W ∧ Wk1 out (outRow l) := by
  cases l with
  | nil =>
    have hb := first43 nl f [] [] 0
    have := code_tidyK mixed (evGT_ok mixed (noneT_ok _) 10) told_ok hb rfl (Nat.zero_le _) (by simp)
    exact ⟨nil0, [], [], (Rounds.out this (by simp)).ok, wk_out0⟩
  | cons r t =>
    have hlt : 0 < (r :: t).length := by simp
    have hr := putL_len (hl _ (getD_mem (d := raw0) hlt))
    have hb := first43 nl f (r :: t) (putL ((r :: t).getD 0 raw0)) 0
    rw [decide_eq_true (by omega : ((0 : Nat) : Int) < ((r :: t).length : Int)), decide_eq_true (by omega : (0 : Int) ≤ ((0 : Nat) : Int) ∧ ((0 : Nat) : Int) < ((r :: t).length : Int)), ask95 hl hlt, decide_eq_false (by omega : ¬ (putL ((r :: t).getD 0 raw0)).length = 0),
      decide_eq_true (by omega : (0 + (putL ((r :: t).getD 0 raw0)).length) * 1 ≤ 70368744177664 ∧ 0 + (putL ((r :: t).getD 0 raw0)).length < 4611686018427387904), wi (x := ((0 : Nat) : Int) + 1) (by omega) (by omega)] at hb
    have := code_tidyK mixed (evGT_ok mixed (noneT_ok _) 10) told_ok hb rfl (Nat.zero_le _) (by simp)
    obtain ⟨k', W', hr'⟩ := loop43 (nl := nl) (f := f) hl hn _ 1 (0 + (putL ((r :: t).getD 0 raw0)).length) (catEl 0 (fun _ => []) (bEl (putL ((r :: t).getD 0 raw0)))) rfl (by simp) (by omega)
    refine ⟨_, _, _, (Rounds.next this hr').ok, ?_⟩
    have key := gCat_ok ((r :: t).map putL) [] (fun _ => []) (fun i hi => absurd hi (Nat.not_lt_zero _))
    have e : (0 + (putL ((r :: t).getD 0 raw0)).length + (outL ((r :: t).drop 1)).length) = (outL (r :: t)).length := by simp [outL]
    rw [e]
    exact Wk1.row key

theorem whole43 (out : AV) (H : AHeap) (W : List Nat) : (evGL Tryz.prog noneT (fun _ => toldX Tryz.prog [⟨3, ks43, .exit 0, T43 nl f l out l.length, H, W⟩] noLoop) 10 43 [.rsl nl 4 l.length (rawEl f l) .non] []).via ansA =
    bif askX Tryz.prog (loopOf Tryz.f43 3) (T43 nl f l nil0 ((0 : Nat) : Int)) [] (.exit 0) (T43 nl f l out l.length) H W then some (.tup [out, i64 0]) else none := by kernel_rfl

theorem write_ctr (hl : ∀ r ∈ l, RawOk r) (hn : l.length ≤ 500) (H : AHeap) : Ctr Tryz.prog 43 [.rsl nl 4 l.length (rawEl f l) .non] (.tup [outRow l, i64 0]) H H [] := by
  obtain ⟨out, H1, W, hok, hw⟩ := all43 (nl := nl) (f := f) hl hn
  have hb := whole43 (nl := nl) (f := f) (l := l) out H1 W
  rw [askX_of hok] at hb
  refine ctr_lfk mixed (noneT_ok _) (fun _ => toldX_ok noLoop_ok) hb rfl (fun r => .refl _) (.tup (.cons hw (.cons (.refl _) .nil))) (.tup _ (fun x hx => ?_)) rfl rfl H
  simp only [List.mem_cons, List.not_mem_nil, or_false] at hx
  rcases hx with rfl | rfl
  · exact .rsl _ _ _ _ _ (by simp)
  · exact .sc _
end
end Go.Proofs.YtiipaliigpkfhaaGreat.Ab
