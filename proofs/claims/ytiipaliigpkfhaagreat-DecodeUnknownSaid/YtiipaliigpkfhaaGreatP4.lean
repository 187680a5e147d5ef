/- A message that has no fields, read: all that is there is kept. -/
import Derived.Test.YtiipaliigpkfhaaGreatP3
import Derived.Test.YtiipaliigpkfhaaGreatN5
set_option linter.unusedVariables false
set_option linter.unusedSimpArgs false
set_option maxRecDepth 100000
namespace Go.Proofs.YtiipaliigpkfhaaGreat.Ab
open Go Go.RowKit Go.Proofs

noncomputable def nameKey (s : ByteArray) : Bool := decide (findKeyA Tryz.prog 9 .string (.string s) [(.string s, .ptr 36 0)] = some (some 0))
noncomputable def noKey (s : ByteArray) : Bool := decide (findKeyA Tryz.prog 9 .string (.string s) [(.string s, .ptr 36 0)] = some none)

section
variable (s : ByteArray)
theorem kind_tree : (evGL Tryz.prog noneT (fun _ => noLoop) 12 63 [.ptr 19 0, .sc (.string s)] (PH s)).via (fun r => (r.1, r.2.2)) =
    bif nameKey s then some (i64 2, []) else bif noKey s then some (i64 0, []) else none := by kernel_rfl
theorem list_tree : (evGL Tryz.prog noneT (fun _ => noLoop) 20 56 [.ptr 19 0, .sc (.string s)] (PH s)).via (fun r => (r.1, r.2.2)) =
    bif nameKey s then bif decide (1 + s.size ≤ 4611686018427387904) then some (nil0, []) else none else bif noKey s then some (nil0, []) else none := by kernel_rfl
theorem find_tree (n : Int) : (evGL Tryz.prog noneT (fun _ => noLoop) 12 87 [nil0, i64 n] []).via ansA = some (.sc (.pointer none)) := by kernel_rfl

def B91 (u : AV) : AHeap := PH s ++ [.cells [.ptr 19 0], .cells [nil0, nil0], .cells [nil0, u], .cells [nil0]]
end

def T91 (nl : Bool) (l : List RawD) (i : Int) : List AV := tmA 176 [(4, .ptr 38 0), (8, .ptr 39 0), (12, .ptr 40 0), (13, .ptr 41 0), (36, .rsl nl 4 l.length (rawEl nlP l) .non), (37, i64 l.length), (38, i64 i)]
def ks91 : List Nat := [4, 8, 12, 13, 36, 37, 38]
noncomputable def lo91 : LoopO := told Tryz.prog [] [⟨45, 0, .sc (.pointer none)⟩]
noncomputable def call91 (lp : List Int) : CallT := evGL Tryz.prog noneT (only 145 (told Tryz.prog [] [⟨8, 0, .tup [rowBy lp, i64 0]⟩])) 10
theorem call91_ok (lp : List Int) : CallTOk Tryz.prog (call91 lp) := evGL_ok mixed (noneT_ok _) (only_ok told_ok) 10

section
variable (s : ByteArray) (nl : Bool) (l : List RawD) (lp : List Int)
theorem first91 (i : Nat) : (evCT Tryz.prog (call91 lp) lo91 10 (loopOf Tryz.f91 7) (T91 nl l i) (B91 s nil0)).via (tidyA ks91 [42, 43, 44] 46 38) =
    bif decide ((i : Int) < (l.length : Int)) then bif decide ((0 : Int) ≤ (i : Int) ∧ (i : Int) < (l.length : Int)) then
      bif askCall Tryz.prog 87 [nil0, i64 (l.getD i raw0).num] [] (.sc (.pointer none)) then bif askCall Tryz.prog 142 [.agg (rawEl nlP l i)] [] (.tup [rowBy lp, i64 0]) then
        bif decide (lp.length = 0) then some ⟨.normal, T91 nl l (IntKind.wrap .i64 ((i : Int) + 1)), B91 s nil0 ++ [.dead, .dead, .dead], true⟩ else
        bif decide ((0 + lp.length) * 1 ≤ 70368744177664 ∧ 0 + lp.length < 4611686018427387904) then some ⟨.normal, T91 nl l (IntKind.wrap .i64 ((i : Int) + 1)), B91 s (.rsl false 1 (0 + lp.length) (catEl 0 (fun _ => []) (bEl lp)) (.tok 45)) ++ [.dead, .dead, .dead, .tail (0 + lp.length) 1], true⟩ else none
      else none else none else none
    else some ⟨.exit 0, T91 nl l i, B91 s nil0, true⟩ := by kernel_rfl

theorem later91 (i c : Nat) (g : Nat → List AV) : (evCT Tryz.prog (call91 lp) lo91 10 (loopOf Tryz.f91 7) (T91 nl l i) (B91 s (.rsl false 1 c g (.tok 45)) ++ [.dead, .dead, .dead, .tail c 1])).via (tidyA ks91 [] 46 38) =
    bif decide ((i : Int) < (l.length : Int)) then bif decide ((0 : Int) ≤ (i : Int) ∧ (i : Int) < (l.length : Int)) then
      bif askCall Tryz.prog 87 [nil0, i64 (l.getD i raw0).num] [] (.sc (.pointer none)) then bif askCall Tryz.prog 142 [.agg (rawEl nlP l i)] [] (.tup [rowBy lp, i64 0]) then
        bif decide (lp.length = 0) then some ⟨.normal, T91 nl l (IntKind.wrap .i64 ((i : Int) + 1)), B91 s (.rsl false 1 c g (.tok 45)) ++ [.dead, .dead, .dead, .tail c 1], true⟩ else
        bif decide ((c + lp.length) * 1 ≤ 70368744177664 ∧ c + lp.length < 4611686018427387904) then bif decide (c = c) then some ⟨.normal, T91 nl l (IntKind.wrap .i64 ((i : Int) + 1)), B91 s (.rsl false 1 (c + lp.length) (catEl c g (bEl lp)) (.tok 45)) ++ [.dead, .dead, .dead, .tail (c + lp.length) 1], true⟩ else none else none
      else none else none else none
    else some ⟨.exit 0, T91 nl l i, B91 s (.rsl false 1 c g (.tok 45)) ++ [.dead, .dead, .dead, .tail c 1], true⟩ := by kernel_rfl
end

/-! ### What is asked -/
section
variable {s : ByteArray}
theorem text_self (s : ByteArray) : (s == s) = true := by
  obtain ⟨x⟩ := s
  have h : (x == x) = true := by simp
  exact h
theorem nameKey_true (s : ByteArray) : nameKey s = true := by
  have h : Instr.sameNow .string (.string s) (.string s) = some true := by
    show some (s == s) = some true
    rw [text_self]
  unfold nameKey findKeyA findNowA
  rw [h]
  rfl

theorem lbPH (s : ByteArray) : ∀ o ∈ PH s, objLB 38 o = true := by
  intro o ho
  simp only [PH, List.mem_append, List.mem_replicate, List.mem_cons, List.not_mem_nil, or_false] at ho
  rcases ho with ⟨_, rfl⟩ | (rfl | rfl | rfl) | ⟨_, rfl⟩ | rfl | rfl <;> rfl

theorem kind_ctr : Ctr Tryz.prog 63 [.ptr 19 0, .sc (.string s)] (i64 2) (PH s) (PH s) [] := by
  have hb := kind_tree s
  rw [nameKey_true] at hb
  obtain ⟨r, hr, he⟩ := via_some hb rfl
  have := evGL_ok mixed (noneT_ok _) (fun _ => noLoop_ok) 12 63 _ _ r hr
  simp only [Prod.mk.injEq] at he
  rw [he.1, he.2] at this
  exact ctr_forget this (.sc _)

theorem list_ctr (hs : s.size ≤ 1000) : Ctr Tryz.prog 56 [.ptr 19 0, .sc (.string s)] nil0 (PH s) (PH s) [] := by
  have hb := list_tree s
  rw [nameKey_true, decide_eq_true (by omega : 1 + s.size ≤ 4611686018427387904)] at hb
  obtain ⟨r, hr, he⟩ := via_some hb rfl
  have := evGL_ok mixed (noneT_ok _) (fun _ => noLoop_ok) 20 56 _ _ r hr
  simp only [Prod.mk.injEq] at he
  rw [he.1, he.2] at this
  exact ctr_forget this (.rsl _ _ _ _ _ (by simp))

theorem lf_nil0 : LF nil0 := .rsl _ _ _ _ _ (by simp)
theorem find_ask (n : Int) : askCall Tryz.prog 87 [nil0, i64 n] [] (.sc (.pointer none)) = true :=
  askCall_of (ctr_sc mixed (noneT_ok _) (find_tree n) rfl (fun a ha => by
    simp only [List.mem_cons, List.not_mem_nil, or_false] at ha
    rcases ha with rfl | rfl
    · exact lf_nil0
    · exact .sc _) [])

variable {nl : Bool} {l : List RawD}
theorem ask142 (hl : ∀ r ∈ l, RawOk r) {i : Nat} (h : i < l.length) : askCall Tryz.prog 142 [.agg (rawEl nlP l i)] [] (.tup [rowBy (putL (l.getD i raw0)), i64 0]) = true := askCall_of (put_ctr (hl _ (getD_mem h)) _ []).1

theorem len91 (u : AV) : (B91 s u).length = 42 := by simp [B91, PH]

theorem loop91 (hl : ∀ r ∈ l, RawOk r) (hn : l.length ≤ 500) : ∀ (d i c : Nat) (g : Nat → List AV), l.length - i = d → i ≤ l.length → c ≤ 530 * i → ∃ k W, (∀ x ∈ W, 38 ≤ x) ∧ Rounds Tryz.prog (loopOf Tryz.f91 7) (.exit 0) (T91 nl l l.length) (B91 s (.rsl false 1 (c + (outL (l.drop i)).length) (gCat c g ((l.drop i).map putL)) (.tok 45)) ++ [.dead, .dead, .dead, .tail (c + (outL (l.drop i)).length) 1]) k (T91 nl l i) (B91 s (.rsl false 1 c g (.tok 45)) ++ [.dead, .dead, .dead, .tail c 1]) W
  | 0, i, c, g, hd, hi, hc => by
    have : i = l.length := by omega
    subst this
    have hb := later91 s nl l [] l.length c g
    rw [decide_eq_false (by omega : ¬ (l.length : Int) < (l.length : Int))] at hb
    have := code_tidyA mixed (call91_ok _) told_ok hb rfl (by rw [List.length_append, len91]; exact Nat.le_refl _) (by simp)
    rw [List.drop_length]
    exact ⟨0, _, fun x hx => rangeW_lo hx, .out this (by simp)⟩
  | d + 1, i, c, g, hd, hi, hc => by
    have hlt : i < l.length := by omega
    have hr := putL_len (hl _ (getD_mem (d := raw0) hlt))
    have hb := later91 s nl l (putL (l.getD i raw0)) i c g
    rw [decide_eq_true (by omega : (i : Int) < (l.length : Int)), decide_eq_true (by omega : (0 : Int) ≤ (i : Int) ∧ (i : Int) < (l.length : Int)), find_ask, ask142 hl hlt, decide_eq_false (by omega : ¬ (putL (l.getD i raw0)).length = 0),
      decide_eq_true (by omega : (c + (putL (l.getD i raw0)).length) * 1 ≤ 70368744177664 ∧ c + (putL (l.getD i raw0)).length < 4611686018427387904), decide_eq_true (rfl : c = c), wi (x := (i : Int) + 1) (by omega) (by omega)] at hb
    have := code_tidyA mixed (call91_ok _) told_ok hb rfl (by rw [List.length_append, len91]; exact Nat.le_refl _) (by simp)
    obtain ⟨k', W', hW, hr'⟩ := loop91 hl hn d (i + 1) (c + (putL (l.getD i raw0)).length) (catEl c g (bEl (putL (l.getD i raw0)))) (by omega) (by omega) (by omega)
    have e1 : c + (outL (l.drop i)).length = c + (putL (l.getD i raw0)).length + (outL (l.drop (i + 1))).length := by
      rw [drop_getD hlt]; simp [outL]; omega
    have e2 : gCat c g ((l.drop i).map putL) = gCat (c + (putL (l.getD i raw0)).length) (catEl c g (bEl (putL (l.getD i raw0)))) ((l.drop (i + 1)).map putL) := by
      rw [drop_getD hlt]; rfl
    rw [e1, e2]
    refine ⟨k' + 1, _, fun x hx => ?_, .next this hr'⟩
    rcases List.mem_append.1 hx with hx | hx
    · exact rangeW_lo hx
    · exact hW x hx

theorem all91 (hl : ∀ r ∈ l, RawOk r) (hn : l.length ≤ 500) : ∃ u J, CodeOk Tryz.prog (.loop (loopOf Tryz.f91 7)) (T91 nl l ((0 : Nat) : Int)) (B91 s nil0) (.exit 0) (T91 nl l l.length) (B91 s u ++ J) [38, 39, 40, 41] ∧ (∃ rb rs rc rg ro, u = .rsl rb rs rc rg ro) ∧ Wk1 u (outRow l) := by
  have few : ∀ {T' : List AV} {H' : AHeap} {W : List Nat}, CodeOk Tryz.prog (.loop (loopOf Tryz.f91 7)) (T91 nl l ((0 : Nat) : Int)) (B91 s nil0) (.exit 0) T' H' W → (∀ x ∈ W, 38 ≤ x) → CodeOk Tryz.prog (.loop (loopOf Tryz.f91 7)) (T91 nl l ((0 : Nat) : Int)) (B91 s nil0) (.exit 0) T' H' [38, 39, 40, 41] := by
    intro T' H' W h hW
    refine h.wr (fun x hx hlt => ?_)
    have h1 := hW x hx
    rw [len91] at hlt
    simp only [List.mem_cons, List.not_mem_nil, or_false]
    omega
  cases l with
  | nil =>
    have hb := first91 s nl [] [] 0
    have := code_tidyA mixed (call91_ok _) told_ok hb rfl (by rw [len91]; omega) (by rw [len91]; simp)
    refine ⟨nil0, [], ?_, ⟨_, _, _, _, _, rfl⟩, wk_out0⟩
    rw [List.append_nil]
    exact few (Rounds.out this (by simp)).ok (fun x hx => rangeW_lo hx)
  | cons r t =>
    have hlt : 0 < (r :: t).length := by simp
    have hr := putL_len (hl _ (getD_mem (d := raw0) hlt))
    have hb := first91 s nl (r :: t) (putL ((r :: t).getD 0 raw0)) 0
    rw [decide_eq_true (by omega : ((0 : Nat) : Int) < ((r :: t).length : Int)), decide_eq_true (by omega : (0 : Int) ≤ ((0 : Nat) : Int) ∧ ((0 : Nat) : Int) < ((r :: t).length : Int)), find_ask, ask142 hl hlt, decide_eq_false (by omega : ¬ (putL ((r :: t).getD 0 raw0)).length = 0),
      decide_eq_true (by omega : (0 + (putL ((r :: t).getD 0 raw0)).length) * 1 ≤ 70368744177664 ∧ 0 + (putL ((r :: t).getD 0 raw0)).length < 4611686018427387904), wi (x := ((0 : Nat) : Int) + 1) (by omega) (by omega)] at hb
    have := code_tidyA mixed (call91_ok _) told_ok hb rfl (by rw [len91]; omega) (by rw [len91]; simp)
    obtain ⟨k', W', hW, hr'⟩ := loop91 (nl := nl) (s := s) hl hn _ 1 (0 + (putL ((r :: t).getD 0 raw0)).length) (catEl 0 (fun _ => []) (bEl (putL ((r :: t).getD 0 raw0)))) rfl (by simp) (by omega)
    refine ⟨_, _, few (Rounds.next this hr').ok (fun x hx => ?_), ⟨_, _, _, _, _, rfl⟩, ?_⟩
    · rcases List.mem_append.1 hx with hx | hx
      · exact rangeW_lo hx
      · exact hW x hx
    · have key := gCat_ok ((r :: t).map putL) [] (fun _ => []) (fun i hi => absurd hi (Nat.not_lt_zero _))
      have e : (0 + (putL ((r :: t).getD 0 raw0)).length + (outL ((r :: t).drop 1)).length) = (outL (r :: t)).length := by simp [outL]
      rw [e]
      exact Wk1.row key
end
end Go.Proofs.YtiipaliigpkfhaaGreat.Ab
