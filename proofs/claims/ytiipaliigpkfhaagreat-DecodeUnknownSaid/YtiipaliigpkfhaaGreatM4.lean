/- All fields of a row of bytes: the document's function. -/
import Derived.Test.YtiipaliigpkfhaaGreatM3
import Derived.Test.YtiipaliigpkfhaaGreatN2
set_option linter.unusedVariables false
set_option linter.unusedSimpArgs false
set_option maxRecDepth 100000
namespace Go.Proofs.YtiipaliigpkfhaaGreat.Ab
open Go Go.RowKit Go.Proofs

def nil0 : AV := .rsl true 0 0 (fun _ => []) .tight
def tkV (num kd nn k e : Int) (b : Bool) (m : Nat) (y : Nat → Int) : AV := .tup [.agg [i64 num, i64 kd, .sc (.int .u64 nn), rowF b m y], i64 k, i64 e]
noncomputable def lo42 (num kd nn k e : Int) (b : Bool) (m : Nat) (y : Nat → Int) : LoopO := told Tryz.prog [] [⟨18, 0, tkV num kd nn k e b m y⟩]

/-- A row that grows by cells. -/
def addEl (c : Nat) (g : Nat → List AV) (cs : List AV) : Nat → List AV := catEl c g (rowOf 4 cs)

section
variable (nl : Bool) (n : Nat) (x : Nat → Int) (num kd nn e : Int) (k : Nat) (b : Bool) (m : Nat) (y : Nat → Int)
def T42 (row : AV) (p : Int) : List AV := tmA 34 [(0, rowF nl n x), (2, nil0), (3, i64 0), (4, i64 0), (5, row), (6, i64 p)]
def T42e (row : AV) (p e : Int) : List AV := tmA 34 [(0, rowF nl n x), (2, nil0), (3, i64 p), (4, i64 e), (5, row), (6, i64 p)]
def ks42 : List Nat := [0, 2, 3, 4, 5, 6]

theorem first42 (p : Nat) : (evCT Tryz.prog (evGT Tryz.prog noneT 10) (lo42 num kd nn k e b m y) 10 (loopOf Tryz.f42 3) (T42 nl n x nil0 p) []).via (tidyK ks42 [0] 2) =
    bif decide ((p : Int) < (n : Int)) then bif decide ((0 : Int) ≤ (p : Int) ∧ (p : Int) ≤ (n : Int) ∧ (n : Int) ≤ (n : Int)) then
      bif askCall Tryz.prog 94 [rowF nl (n - p) (fun i => x (i + p))] [] (tkV num kd nn k e b m y) then
        bif (e != 0) then some ⟨.ret, T42e nl n x nil0 p e, [.dead], [0], true⟩
        else some ⟨.normal, T42 nl n x (.rsl false 4 1 (addEl 0 (fun _ => []) [i64 num, i64 kd, .sc (.int .u64 nn), rowF b m y]) (.tok 1)) (IntKind.wrap .i64 ((p : Int) + (k : Int))), [.dead, .tail 1 4], [0], true⟩
      else none else none
    else some ⟨.exit 0, T42 nl n x nil0 p, [], [], true⟩ := by kernel_rfl

theorem later42 (p c : Nat) (g : Nat → List AV) : (evCT Tryz.prog (evGT Tryz.prog noneT 10) (lo42 num kd nn k e b m y) 10 (loopOf Tryz.f42 3) (T42 nl n x (.rsl false 4 c g (.tok 1)) p) [.dead, .tail c 4]).via (tidyK ks42 [] 2) =
    bif decide ((p : Int) < (n : Int)) then bif decide ((0 : Int) ≤ (p : Int) ∧ (p : Int) ≤ (n : Int) ∧ (n : Int) ≤ (n : Int)) then
      bif askCall Tryz.prog 94 [rowF nl (n - p) (fun i => x (i + p))] [] (tkV num kd nn k e b m y) then
        bif (e != 0) then some ⟨.ret, T42e nl n x (.rsl false 4 c g (.tok 1)) p e, [.dead, .tail c 4], [], true⟩
        else bif decide ((c + 1) * 48 ≤ 70368744177664 ∧ c + 1 < 4611686018427387904) then bif decide (c = c) then
          some ⟨.normal, T42 nl n x (.rsl false 4 (c + 1) (addEl c g [i64 num, i64 kd, .sc (.int .u64 nn), rowF b m y]) (.tok 1)) (IntKind.wrap .i64 ((p : Int) + (k : Int))), [.dead, .tail (c + 1) 4], [1], true⟩ else none else none
      else none else none
    else some ⟨.exit 0, T42 nl n x (.rsl false 4 c g (.tok 1)) p, [.dead, .tail c 4], [], true⟩ := by kernel_rfl
end

/-! ### Rows that have grown -/
def gAll (f : RawD → Bool) : Nat → (Nat → List AV) → List RawD → Nat → List AV
  | _, g, [] => g
  | c, g, r :: l => gAll f (c + 1) (addEl c g (r.cells (f r))) l

theorem gAll_lo (f : RawD → Bool) : ∀ (l : List RawD) (c : Nat) (g : Nat → List AV) (i : Nat), i < c → gAll f c g l i = g i
  | [], c, g, i, h => rfl
  | r :: l, c, g, i, h => by
    unfold gAll
    rw [gAll_lo f l (c + 1) _ i (by omega)]
    unfold addEl catEl
    rw [if_pos h]

def raw0 : RawD := ⟨0, 0, 0, 0, fun _ => 0⟩
def rawEl (f : RawD → Bool) (l : List RawD) (i : Nat) : List AV := (l.getD i raw0).cells (f (l.getD i raw0))

theorem gAll_hi (f : RawD → Bool) : ∀ (l : List RawD) (c : Nat) (g : Nat → List AV) (i : Nat), i < l.length → gAll f c g l (c + i) = rawEl f l i
  | [], c, g, i, h => absurd h (Nat.not_lt_zero _)
  | r :: l, c, g, 0, h => by
    unfold gAll
    rw [gAll_lo f l (c + 1) _ (c + 0) (by omega)]
    unfold addEl catEl
    rw [if_neg (by omega)]
    simp [rowOf, RawD.cells, rawEl]
  | r :: l, c, g, i + 1, h => by
    unfold gAll
    rw [show c + (i + 1) = (c + 1) + i by omega, gAll_hi f l (c + 1) _ i (by simpa using h)]
    simp [rawEl]

/-- Fields as a row. -/
def rawsRow (f : RawD → Bool) (l : List RawD) : AV := .rsl l.isEmpty 4 l.length (rawEl f l) .non
def readA (f : RawD → Bool) (l : List RawD) (z : Nat) (e : Int) : AV := if e = 0 then .tup [rawsRow f l, i64 0, i64 0] else .tup [.rsl true 4 0 (fun _ => []) .non, i64 z, i64 e]

theorem lf_readA (f : RawD → Bool) (l : List RawD) (z : Nat) (e : Int) : LF (readA f l z e) ∧ lbA 0 (readA f l z e) = true := by
  have two : ∀ a b c : AV, LF a → LF b → LF c → LF (.tup [a, b, c]) := fun a b c ha hb hc => .tup _ (fun x hx => by
    simp only [List.mem_cons, List.not_mem_nil, or_false] at hx
    rcases hx with rfl | rfl | rfl <;> assumption)
  unfold readA
  split
  · exact ⟨two _ _ _ (.rsl _ _ _ _ _ (by simp)) (.sc _) (.sc _), rfl⟩
  · exact ⟨two _ _ _ (.rsl _ _ _ _ _ (by simp)) (.sc _) (.sc _), rfl⟩

theorem wk_raws0 (f : RawD → Bool) : Wk1 nil0 (rawsRow f []) := by
  intro E v hr
  cases hr with
  | rnil => exact .rnil 4 _ .non (.inl rfl)
theorem wk_nil4 : Wk1 nil0 (.rsl true 4 0 (fun _ => []) .non) := by
  intro E v hr
  cases hr with
  | rnil => exact .rnil 4 _ .non (.inl rfl)
theorem wk_raws (f : RawD → Bool) (r : RawD) (l : List RawD) (g : Nat → List AV) (own : Own) : Wk1 (.rsl false 4 (1 + l.length) (gAll f 1 (addEl 0 g (r.cells (f r))) l) own) (rawsRow f (r :: l)) := by
  have e : (1 + l.length) = (r :: l).length := by simp; omega
  unfold rawsRow
  rw [e]
  refine Wk1.row (fun i hi => ?_)
  have := gAll_hi f (r :: l) 0 g i hi
  rw [Nat.zero_add] at this
  exact this

/-! ### The loop -/
section
variable {nl : Bool} {n : Nat} {x : Nat → Int}

theorem ask94 {r : TkR} (h : Tk n x r) : askCall Tryz.prog 94 [rowF nl n x] [] (tkA nlR r) = true := askCall_of (h.2.2 nl [])
theorem tk_e {e : Int} (h : Tk n x (.err e)) : (e != 0) = true ∧ e ≠ 0 := by
  have := h.1
  unfold TkOk at this
  have h2 : e ≠ 0 := by omega
  exact ⟨by simpa using h2, h2⟩

def outX (e : Int) : AExit := bif (e == 0) then .exit 0 else .ret

theorem loop42 (hn : n ≤ 500) : ∀ {p z : Nat} {l : List RawD} {e : Int}, Flds n x p l z e → ∀ (c : Nat) (g : Nat → List AV), c ≤ p → ∃ k W, Rounds Tryz.prog (loopOf Tryz.f42 3) (outX e) (bif (e == 0) then T42 nl n x (.rsl false 4 (c + l.length) (gAll nlR c g l) (.tok 1)) n else T42e nl n x (.rsl false 4 (c + l.length) (gAll nlR c g l) (.tok 1)) z e) [.dead, .tail (c + l.length) 4] k (T42 nl n x (.rsl false 4 c g (.tok 1)) p) [.dead, .tail c 4] W := by
  intro p z l e h
  induction h with
  | done =>
    intro c g hc
    have hb := later42 nl n x 0 0 0 0 0 false 0 (fun _ => 0) n c g
    rw [decide_eq_false (by omega : ¬ (n : Int) < (n : Int))] at hb
    have := code_tidyK mixed (evGT_ok mixed (noneT_ok _) 10) told_ok hb rfl (Nat.le_refl _) (by simp)
    exact ⟨0, _, .out this (by simp [outX])⟩
  | err p e h tk =>
    intro c g hc
    have hb := later42 nl n x 0 0 0 e 0 true 0 (fun _ => 0) p c g
    have ha : askCall Tryz.prog 94 [rowF nl (n - p) (fun i => x (i + p))] [] (tkV 0 0 0 ((0 : Nat) : Int) e true 0 (fun _ => 0)) = true := ask94 tk
    rw [decide_eq_true (by omega : (p : Int) < (n : Int)), decide_eq_true (by omega : (0 : Int) ≤ (p : Int) ∧ (p : Int) ≤ (n : Int) ∧ (n : Int) ≤ (n : Int)), ha, (tk_e tk).1] at hb
    have := code_tidyK mixed (evGT_ok mixed (noneT_ok _) 10) told_ok hb rfl (Nat.le_refl _) (by simp)
    have e0 : (e == 0) = false := by simpa using (tk_e tk).2
    unfold outX
    rw [e0]
    exact ⟨0, _, .out this (by simp)⟩
  | next p r k l z e h tk rest ih =>
    intro c g hc
    have hk := tk.1.2
    have hb := later42 nl n x r.num r.kd r.nn 0 k (nlR r) r.m r.y p c g
    have ha : askCall Tryz.prog 94 [rowF nl (n - p) (fun i => x (i + p))] [] (tkV r.num r.kd r.nn (k : Int) 0 (nlR r) r.m r.y) = true := ask94 tk
    rw [decide_eq_true (by omega : (p : Int) < (n : Int)), decide_eq_true (by omega : (0 : Int) ≤ (p : Int) ∧ (p : Int) ≤ (n : Int) ∧ (n : Int) ≤ (n : Int)), ha, decide_eq_true (by omega : (c + 1) * 48 ≤ 70368744177664 ∧ c + 1 < 4611686018427387904), decide_eq_true (rfl : c = c), wi (x := (p : Int) + (k : Int)) (by omega) (by omega)] at hb
    have := code_tidyK mixed (evGT_ok mixed (noneT_ok _) 10) told_ok hb rfl (Nat.le_refl _) (by simp)
    obtain ⟨k', W', hr⟩ := ih (c + 1) (addEl c g (r.cells (nlR r))) (by omega)
    have e1 : c + 1 + l.length = c + (r :: l).length := by simp; omega
    rw [e1] at hr
    exact ⟨k' + 1, _, .next this hr⟩

theorem all42 (hn : n ≤ 500) {l : List RawD} {z : Nat} {e : Int} (h : Flds n x 0 l z e) : ∃ row H W, CodeOk Tryz.prog (.loop (loopOf Tryz.f42 3)) (T42 nl n x nil0 ((0 : Nat) : Int)) [] (outX e) (bif (e == 0) then T42 nl n x row n else T42e nl n x row z e) H W ∧ (e = 0 → Wk1 row (rawsRow nlR l)) := by
  cases h with
  | done =>
    have hb := first42 nl 0 x 0 0 0 0 0 false 0 (fun _ => 0) 0
    have := code_tidyK mixed (evGT_ok mixed (noneT_ok _) 10) told_ok hb rfl (Nat.zero_le _) (by simp)
    exact ⟨_, _, _, (Rounds.out this (by simp)).ok, fun _ => wk_raws0 _⟩
  | err p e h tk =>
    have hb := first42 nl n x 0 0 0 e 0 true 0 (fun _ => 0) 0
    have ha : askCall Tryz.prog 94 [rowF nl (n - 0) (fun i => x (i + 0))] [] (tkV 0 0 0 ((0 : Nat) : Int) e true 0 (fun _ => 0)) = true := ask94 tk
    rw [decide_eq_true (by omega : ((0 : Nat) : Int) < (n : Int)), decide_eq_true (by omega : (0 : Int) ≤ ((0 : Nat) : Int) ∧ ((0 : Nat) : Int) ≤ (n : Int) ∧ (n : Int) ≤ (n : Int)), ha, (tk_e tk).1] at hb
    have := code_tidyK mixed (evGT_ok mixed (noneT_ok _) 10) told_ok hb rfl (Nat.zero_le _) (by simp)
    have e0 : (e == 0) = false := by simpa using (tk_e tk).2
    refine ⟨nil0, [.dead], [0], ?_, fun h => absurd h (tk_e tk).2⟩
    unfold outX
    rw [e0]
    exact (Rounds.out this (by simp)).ok
  | next p r k l z e h tk rest =>
    have hk := tk.1.2
    have hb := first42 nl n x r.num r.kd r.nn 0 k (nlR r) r.m r.y 0
    have ha : askCall Tryz.prog 94 [rowF nl (n - 0) (fun i => x (i + 0))] [] (tkV r.num r.kd r.nn (k : Int) 0 (nlR r) r.m r.y) = true := ask94 tk
    rw [decide_eq_true (by omega : ((0 : Nat) : Int) < (n : Int)), decide_eq_true (by omega : (0 : Int) ≤ ((0 : Nat) : Int) ∧ ((0 : Nat) : Int) ≤ (n : Int) ∧ (n : Int) ≤ (n : Int)), ha, wi (x := ((0 : Nat) : Int) + (k : Int)) (by omega) (by omega)] at hb
    have := code_tidyK mixed (evGT_ok mixed (noneT_ok _) 10) told_ok hb rfl (Nat.zero_le _) (by simp)
    rw [← Int.natCast_add] at this
    obtain ⟨k', W', hr⟩ := loop42 (nl := nl) hn rest 1 (addEl 0 (fun _ => []) (r.cells (nlR r))) (by omega)
    exact ⟨_, _, _, (Rounds.next this hr).ok, fun _ => wk_raws _ _ _ _ _⟩

/-! ### The function -/
theorem whole42 (row : AV) (H : AHeap) (W : List Nat) : (evGL Tryz.prog noneT (fun _ => toldX Tryz.prog [⟨3, ks42, .exit 0, T42 nl n x row n, H, W⟩] noLoop) 10 42 [rowF nl n x] []).via ansA =
    bif askX Tryz.prog (loopOf Tryz.f42 3) (T42 nl n x nil0 ((0 : Nat) : Int)) [] (.exit 0) (T42 nl n x row n) H W then some (.tup [row, i64 0, i64 0]) else none := by kernel_rfl
theorem whole42e (row : AV) (H : AHeap) (W : List Nat) (z : Nat) (e : Int) : (evGL Tryz.prog noneT (fun _ => toldX Tryz.prog [⟨3, ks42, .ret, T42e nl n x row z e, H, W⟩] noLoop) 10 42 [rowF nl n x] []).via ansA =
    bif askX Tryz.prog (loopOf Tryz.f42 3) (T42 nl n x nil0 ((0 : Nat) : Int)) [] .ret (T42e nl n x row z e) H W then some (.tup [nil0, i64 z, i64 e]) else none := by kernel_rfl

theorem wk_t3 {a b c d : AV} (h : Wk1 a b) : Wk1 (.tup [a, c, d]) (.tup [b, c, d]) := .tup (.cons h (.cons (.refl _) (.cons (.refl _) .nil)))

theorem readR_ctr (hn : n ≤ 500) {l : List RawD} {z : Nat} {e : Int} (h : Flds n x 0 l z e) (H : AHeap) : Ctr Tryz.prog 42 [rowF nl n x] (readA nlR l z e) H H [] := by
  obtain ⟨row, H1, W, hok, hw⟩ := all42 (nl := nl) hn h
  by_cases he : e = 0
  · subst he
    have hb := whole42 (nl := nl) (n := n) (x := x) row H1 W
    have hok : CodeOk Tryz.prog (.loop (loopOf Tryz.f42 3)) (T42 nl n x nil0 ((0 : Nat) : Int)) [] (.exit 0) (T42 nl n x row n) H1 W := hok
    rw [askX_of hok] at hb
    refine ctr_lfk mixed (noneT_ok _) (fun _ => toldX_ok noLoop_ok) hb rfl (fun r => .refl _) ?_ (lf_readA _ _ _ _).1 (lf_readA _ _ _ _).2 rfl H
    unfold readA
    rw [if_pos rfl]
    exact wk_t3 (hw rfl)
  · have e0 : (e == 0) = false := by simpa using he
    unfold outX at hok
    rw [e0] at hok
    have hb := whole42e (nl := nl) (n := n) (x := x) row H1 W z e
    have hok : CodeOk Tryz.prog (.loop (loopOf Tryz.f42 3)) (T42 nl n x nil0 ((0 : Nat) : Int)) [] .ret (T42e nl n x row z e) H1 W := hok
    rw [askX_of hok] at hb
    refine ctr_lfk mixed (noneT_ok _) (fun _ => toldX_ok noLoop_ok) hb rfl (fun r => .refl _) ?_ (lf_readA _ _ _ _).1 (lf_readA _ _ _ _).2 rfl H
    unfold readA
    rw [if_neg he]
    exact wk_t3 wk_nil4
end
end Go.Proofs.YtiipaliigpkfhaaGreat.Ab
