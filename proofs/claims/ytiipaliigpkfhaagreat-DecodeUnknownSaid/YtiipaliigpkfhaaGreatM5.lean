/- All fields of a row of bytes: the program's function, a range over a function. -/
import Derived.Test.YtiipaliigpkfhaaGreatM4
set_option linter.unusedVariables false
set_option linter.unusedSimpArgs false
set_option maxRecDepth 100000
namespace Go.Proofs.YtiipaliigpkfhaaGreat.Ab
open Go Go.RowKit Go.Proofs

def rangeAt : Code → Option (Array Tmp × Code × Code)
  | .rangeFunc _ ps a b => some (ps, a, b)
  | .seq a b => match rangeAt a with
    | some r => some r
    | none => rangeAt b
  | .block _ c => rangeAt c
  | .cond _ a b => match rangeAt a with
    | some r => some r
    | none => rangeAt b
  | _ => none
noncomputable def as69 : Code := ((Tryz.f69.body.bind rangeAt).map (·.2.1)).getD .skip
noncomputable def bd69 : Code := ((Tryz.f69.body.bind rangeAt).map (·.2.2)).getD .skip

section
variable (nb : Bool) (n : Nat) (x : Nat → Int) (num kd nn : Int) (e : Int) (k : Nat) (b : Bool) (m : Nat) (y : Nat → Int)
def T69 : List AV := tmA 22 [(0, rowF nb n x), (2, .ptr 0 0), (3, .ptr 1 0), (4, .ptr 2 0), (5, .ptr 3 0), (6, .ptr 4 0), (9, rowF nb n x), (10, .fn (.func 215) [] [.ptr 5 0, .ptr 6 0])]
noncomputable def B69 (row : AV) (e : Int) : AHeap := [.cells [nil0], .cells [i64 0], .cells [i64 0], .cells [row], .cells [i64 e], .cells [rowF nb n x], .cells [.ptr 4 0], .mark .defs, .mark (.loop (T69 nb n x) #[11, 12] as69 bd69 none)]
noncomputable def B69e (row : AV) (z e : Int) : AHeap := [.cells [nil0], .cells [i64 z], .cells [i64 e], .cells [row], .cells [i64 e], .cells [rowF nb n x], .cells [.ptr 4 0], .mark .defs, .mark (.loop (T69 nb n x) #[11, 12] as69 bd69 (some .ret))]
def T215 (p : Int) : List AV := tmA 35 [(0, .yfn 8), (1, .ptr 5 0), (2, .ptr 6 0), (4, i64 p)]
def ks215 : List Nat := [0, 1, 2, 4]
noncomputable def lo215 : LoopO := toldY Tryz.prog (evGT Tryz.prog noneT 10) 10 [(4, 3)] [] [⟨16, 0, tkV num kd nn k e b m y⟩]

theorem first215 (p : Nat) : (evCT Tryz.prog (evGT Tryz.prog noneT 10) (lo215 num kd nn e k b m y) 10 (loopOf Tryz.f215 1) (T215 p) (B69 nb n x nil0 0)).via (tidyK ks215 [9, 10] 12) =
    bif decide ((p : Int) < (n : Int)) then bif decide ((0 : Int) ≤ (p : Int) ∧ (p : Int) ≤ (n : Int) ∧ (n : Int) ≤ (n : Int)) then
      bif askCall Tryz.prog 216 [rowF nb (n - p) (fun i => x (i + p))] [] (tkV num kd nn k e b m y) then
        bif (e != 0) then some ⟨.ret, T215 p, B69e nb n x nil0 p e ++ [.dead, .dead], [9, 4, 8, 10, 0, 1, 2], true⟩
        else bif (e != 0) then some ⟨.ret, T215 p, B69 nb n x (.rsl false 4 1 (addEl 0 (fun _ => []) [i64 num, i64 kd, .sc (.int .u64 nn), rowF b m y]) (.tok 11)) e ++ [.dead, .dead, .tail 1 4], [9, 4, 8, 10, 3], true⟩
        else some ⟨.normal, T215 (IntKind.wrap .i64 ((p : Int) + (k : Int))), B69 nb n x (.rsl false 4 1 (addEl 0 (fun _ => []) [i64 num, i64 kd, .sc (.int .u64 nn), rowF b m y]) (.tok 11)) e ++ [.dead, .dead, .tail 1 4], [9, 4, 8, 10, 3], true⟩
      else none else none
    else some ⟨.exit 0, T215 p, B69 nb n x nil0 0, [], true⟩ := by kernel_rfl

theorem later215 (p c : Nat) (g : Nat → List AV) : (evCT Tryz.prog (evGT Tryz.prog noneT 10) (lo215 num kd nn e k b m y) 10 (loopOf Tryz.f215 1) (T215 p) (B69 nb n x (.rsl false 4 c g (.tok 11)) 0 ++ [.dead, .dead, .tail c 4])).via (tidyK ks215 [] 12) =
    bif decide ((p : Int) < (n : Int)) then bif decide ((0 : Int) ≤ (p : Int) ∧ (p : Int) ≤ (n : Int) ∧ (n : Int) ≤ (n : Int)) then
      bif askCall Tryz.prog 216 [rowF nb (n - p) (fun i => x (i + p))] [] (tkV num kd nn k e b m y) then
        bif (e != 0) then some ⟨.ret, T215 p, B69e nb n x (.rsl false 4 c g (.tok 11)) p e ++ [.dead, .dead, .tail c 4], [4, 8, 0, 1, 2], true⟩
        else bif decide ((c + 1) * 48 ≤ 70368744177664 ∧ c + 1 < 4611686018427387904) then bif decide (c = c) then
          bif (e != 0) then some ⟨.ret, T215 p, B69 nb n x (.rsl false 4 (c + 1) (addEl c g [i64 num, i64 kd, .sc (.int .u64 nn), rowF b m y]) (.tok 11)) e ++ [.dead, .dead, .tail (c + 1) 4], [4, 8, 11, 3], true⟩
          else some ⟨.normal, T215 (IntKind.wrap .i64 ((p : Int) + (k : Int))), B69 nb n x (.rsl false 4 (c + 1) (addEl c g [i64 num, i64 kd, .sc (.int .u64 nn), rowF b m y]) (.tok 11)) e ++ [.dead, .dead, .tail (c + 1) 4], [4, 8, 11, 3], true⟩ else none else none
      else none else none
    else some ⟨.exit 0, T215 p, B69 nb n x (.rsl false 4 c g (.tok 11)) 0 ++ [.dead, .dead, .tail c 4], [], true⟩ := by kernel_rfl
end

section
variable {n : Nat} {x : Nat → Int}

theorem ask216 {r : TkR} (h : Tk n x r) : askCall Tryz.prog 216 [rowF false n x] [] (tkA nlP r) = true := askCall_of (h.2.1 [])

noncomputable def end215 (nb : Bool) (n : Nat) (x : Nat → Int) (row : AV) (z : Nat) (e : Int) : AHeap := bif (e == 0) then B69 nb n x row 0 else B69e nb n x row z e
def pl215 (n z : Nat) (e : Int) : Int := bif (e == 0) then (n : Int) else (z : Int)

theorem loop215 (hn : n ≤ 500) : ∀ {p z : Nat} {l : List RawD} {e : Int}, Flds n x p l z e → ∀ (c : Nat) (g : Nat → List AV), c ≤ p → ∃ k W, Rounds Tryz.prog (loopOf Tryz.f215 1) (outX e) (T215 (pl215 n z e)) (end215 false n x (.rsl false 4 (c + l.length) (gAll nlP c g l) (.tok 11)) z e ++ [.dead, .dead, .tail (c + l.length) 4]) k (T215 p) (B69 false n x (.rsl false 4 c g (.tok 11)) 0 ++ [.dead, .dead, .tail c 4]) W := by
  intro p z l e h
  induction h with
  | done =>
    intro c g hc
    have hb := later215 false n x 0 0 0 0 0 false 0 (fun _ => 0) n c g
    rw [decide_eq_false (by omega : ¬ (n : Int) < (n : Int))] at hb
    have := code_tidyK mixed (evGT_ok mixed (noneT_ok _) 10) (toldY_ok mixed (evGT_ok mixed (noneT_ok _) 10)) hb rfl (Nat.le_refl _) (by simp)
    exact ⟨0, _, .out this (by simp [outX])⟩
  | err p e h tk =>
    intro c g hc
    have hb := later215 false n x 0 0 0 e 0 true 0 (fun _ => 0) p c g
    have ha : askCall Tryz.prog 216 [rowF false (n - p) (fun i => x (i + p))] [] (tkV 0 0 0 ((0 : Nat) : Int) e true 0 (fun _ => 0)) = true := ask216 tk
    rw [decide_eq_true (by omega : (p : Int) < (n : Int)), decide_eq_true (by omega : (0 : Int) ≤ (p : Int) ∧ (p : Int) ≤ (n : Int) ∧ (n : Int) ≤ (n : Int)), ha, (tk_e tk).1] at hb
    have := code_tidyK mixed (evGT_ok mixed (noneT_ok _) 10) (toldY_ok mixed (evGT_ok mixed (noneT_ok _) 10)) hb rfl (Nat.le_refl _) (by simp)
    have e0 : (e == 0) = false := by simpa using (tk_e tk).2
    unfold outX end215 pl215
    rw [e0]
    exact ⟨0, _, .out this (by simp)⟩
  | next p r k l z e h tk rest ih =>
    intro c g hc
    have hk := tk.1.2
    have hb := later215 false n x r.num r.kd r.nn 0 k (nlP r) r.m r.y p c g
    have ha : askCall Tryz.prog 216 [rowF false (n - p) (fun i => x (i + p))] [] (tkV r.num r.kd r.nn (k : Int) 0 (nlP r) r.m r.y) = true := ask216 tk
    rw [decide_eq_true (by omega : (p : Int) < (n : Int)), decide_eq_true (by omega : (0 : Int) ≤ (p : Int) ∧ (p : Int) ≤ (n : Int) ∧ (n : Int) ≤ (n : Int)), ha, decide_eq_true (by omega : (c + 1) * 48 ≤ 70368744177664 ∧ c + 1 < 4611686018427387904), decide_eq_true (rfl : c = c), wi (x := (p : Int) + (k : Int)) (by omega) (by omega)] at hb
    have := code_tidyK mixed (evGT_ok mixed (noneT_ok _) 10) (toldY_ok mixed (evGT_ok mixed (noneT_ok _) 10)) hb rfl (Nat.le_refl _) (by simp)
    obtain ⟨k', W', hr⟩ := ih (c + 1) (addEl c g (r.cells (nlP r))) (by omega)
    have e1 : c + 1 + l.length = c + (r :: l).length := by simp; omega
    rw [e1] at hr
    exact ⟨k' + 1, _, .next this hr⟩

theorem all215 {nb : Bool} (hb0 : nb = true → n = 0) (hn : n ≤ 500) {l : List RawD} {z : Nat} {e : Int} (h : Flds n x 0 l z e) : ∃ row J W, CodeOk Tryz.prog (.loop (loopOf Tryz.f215 1)) (T215 ((0 : Nat) : Int)) (B69 nb n x nil0 0) (outX e) (T215 (pl215 n z e)) (end215 nb n x row z e ++ J) W ∧ (∃ rb rs rc rg ro, row = .rsl rb rs rc rg ro) ∧ (e = 0 → Wk1 row (rawsRow nlP l)) := by
  cases h with
  | done =>
    have hb := first215 nb 0 x 0 0 0 0 0 false 0 (fun _ => 0) 0
    have := code_tidyK mixed (evGT_ok mixed (noneT_ok _) 10) (toldY_ok mixed (evGT_ok mixed (noneT_ok _) 10)) hb rfl (by show 9 ≤ 12; omega) (by simp [B69])
    refine ⟨nil0, [], [], ?_, ⟨_, _, _, _, _, rfl⟩, fun _ => wk_raws0 _⟩
    rw [List.append_nil]
    exact (Rounds.out this (by simp)).ok
  | err p e h tk =>
    have hnb : nb = false := by
      cases nb with
      | false => rfl
      | true => exact absurd (hb0 rfl) (by omega)
    subst hnb
    have hb := first215 false n x 0 0 0 e 0 true 0 (fun _ => 0) 0
    have ha : askCall Tryz.prog 216 [rowF false (n - 0) (fun i => x (i + 0))] [] (tkV 0 0 0 ((0 : Nat) : Int) e true 0 (fun _ => 0)) = true := ask216 tk
    rw [decide_eq_true (by omega : ((0 : Nat) : Int) < (n : Int)), decide_eq_true (by omega : (0 : Int) ≤ ((0 : Nat) : Int) ∧ ((0 : Nat) : Int) ≤ (n : Int) ∧ (n : Int) ≤ (n : Int)), ha, (tk_e tk).1] at hb
    have := code_tidyK mixed (evGT_ok mixed (noneT_ok _) 10) (toldY_ok mixed (evGT_ok mixed (noneT_ok _) 10)) hb rfl (by show 9 ≤ 12; omega) (by simp [B69])
    have e0 : (e == 0) = false := by simpa using (tk_e tk).2
    refine ⟨nil0, [.dead, .dead], [9, 4, 8, 10, 0, 1, 2], ?_, ⟨_, _, _, _, _, rfl⟩, fun h => absurd h (tk_e tk).2⟩
    unfold outX end215 pl215
    rw [e0]
    exact (Rounds.out this (by simp)).ok
  | next p r k l z e h tk rest =>
    have hnb : nb = false := by
      cases nb with
      | false => rfl
      | true => exact absurd (hb0 rfl) (by omega)
    subst hnb
    have hk := tk.1.2
    have hb := first215 false n x r.num r.kd r.nn 0 k (nlP r) r.m r.y 0
    have ha : askCall Tryz.prog 216 [rowF false (n - 0) (fun i => x (i + 0))] [] (tkV r.num r.kd r.nn (k : Int) 0 (nlP r) r.m r.y) = true := ask216 tk
    rw [decide_eq_true (by omega : ((0 : Nat) : Int) < (n : Int)), decide_eq_true (by omega : (0 : Int) ≤ ((0 : Nat) : Int) ∧ ((0 : Nat) : Int) ≤ (n : Int) ∧ (n : Int) ≤ (n : Int)), ha, wi (x := ((0 : Nat) : Int) + (k : Int)) (by omega) (by omega)] at hb
    have := code_tidyK mixed (evGT_ok mixed (noneT_ok _) 10) (toldY_ok mixed (evGT_ok mixed (noneT_ok _) 10)) hb rfl (by show 9 ≤ 12; omega) (by simp [B69])
    rw [← Int.natCast_add] at this
    obtain ⟨k', W', hr⟩ := loop215 hn rest 1 (addEl 0 (fun _ => []) (r.cells (nlP r))) (by omega)
    exact ⟨_, _, _, (Rounds.next this hr).ok, ⟨_, _, _, _, _, rfl⟩, fun _ => wk_raws _ _ _ _ _⟩

/-! ### The function that yields -/
theorem whole215 (nb : Bool) (q : Int) (H : AHeap) (W : List Nat) : (evGL Tryz.prog noneT (fun _ => toldX Tryz.prog [⟨1, ks215, .exit 0, T215 q, H, W⟩] noLoop) 10 215 [.yfn 8, .ptr 5 0, .ptr 6 0] (B69 nb n x nil0 0)).via (fun r => (r.1, r.2.1)) =
    bif askX Tryz.prog (loopOf Tryz.f215 1) (T215 ((0 : Nat) : Int)) (B69 nb n x nil0 0) (.exit 0) (T215 q) H W then some (.tup [], H) else none := by kernel_rfl
theorem whole215e (nb : Bool) (q : Int) (H : AHeap) (W : List Nat) : (evGL Tryz.prog noneT (fun _ => toldX Tryz.prog [⟨1, ks215, .ret, T215 q, H, W⟩] noLoop) 10 215 [.yfn 8, .ptr 5 0, .ptr 6 0] (B69 nb n x nil0 0)).via (fun r => (r.1, r.2.1)) =
    bif askX Tryz.prog (loopOf Tryz.f215 1) (T215 ((0 : Nat) : Int)) (B69 nb n x nil0 0) .ret (T215 q) H W then some (.tup [], H) else none := by kernel_rfl

theorem ctr215 {nb : Bool} (hb0 : nb = true → n = 0) (hn : n ≤ 500) {l : List RawD} {z : Nat} {e : Int} (h : Flds n x 0 l z e) : ∃ row J W, Ctr Tryz.prog 215 [.yfn 8, .ptr 5 0, .ptr 6 0] (.tup []) (B69 nb n x nil0 0) (end215 nb n x row z e ++ J) W ∧ (∃ rb rs rc rg ro, row = .rsl rb rs rc rg ro) ∧ (e = 0 → Wk1 row (rawsRow nlP l)) := by
  obtain ⟨row, J, W, hok, hro, hw⟩ := all215 hb0 hn h
  have key : ∀ F, F = some (.tup [], end215 nb n x row z e ++ J) → (∃ lo : FuncId → LoopO, (∀ g, LoopsOk Tryz.prog (lo g)) ∧ (evGL Tryz.prog noneT lo 10 215 [.yfn 8, .ptr 5 0, .ptr 6 0] (B69 nb n x nil0 0)).via (fun r => (r.1, r.2.1)) = F) → ∃ W', Ctr Tryz.prog 215 [.yfn 8, .ptr 5 0, .ptr 6 0] (.tup []) (B69 nb n x nil0 0) (end215 nb n x row z e ++ J) W' := by
    rintro F hF ⟨lo, hl, ht⟩
    obtain ⟨r, hr, he⟩ := via_some ht hF
    simp only [Prod.mk.injEq] at he
    have := evGL_ok mixed (noneT_ok _) hl 10 215 _ _ r hr
    rw [he.1, he.2] at this
    exact ⟨_, this⟩
  by_cases he : e = 0
  · subst he
    have hok : CodeOk Tryz.prog (.loop (loopOf Tryz.f215 1)) (T215 ((0 : Nat) : Int)) (B69 nb n x nil0 0) (.exit 0) (T215 (pl215 n z 0)) (end215 nb n x row z 0 ++ J) W := hok
    have hb := whole215 (n := n) (x := x) nb (pl215 n z 0) (end215 nb n x row z 0 ++ J) W
    rw [askX_of hok] at hb
    obtain ⟨W', hc⟩ := key _ rfl ⟨_, fun _ => toldX_ok noLoop_ok, hb⟩
    exact ⟨row, J, W', hc, hro, hw⟩
  · have e0 : (e == 0) = false := by simpa using he
    have hok' : CodeOk Tryz.prog (.loop (loopOf Tryz.f215 1)) (T215 ((0 : Nat) : Int)) (B69 nb n x nil0 0) .ret (T215 (pl215 n z e)) (end215 nb n x row z e ++ J) W := by
      unfold outX at hok; rw [e0] at hok; exact hok
    have hb := whole215e (n := n) (x := x) nb (pl215 n z e) (end215 nb n x row z e ++ J) W
    rw [askX_of hok'] at hb
    obtain ⟨W', hc⟩ := key _ rfl ⟨_, fun _ => toldX_ok noLoop_ok, hb⟩
    exact ⟨row, J, W', hc, hro, hw⟩

/-! ### The function that ranges -/
theorem whole69 (nb : Bool) (rb : Bool) (rs rc : Nat) (rg : Nat → List AV) (ro : Own) (J : AHeap) (W : List Nat) : (fnBT Tryz.prog (evGT Tryz.prog noneT 10) noLoop ⟨.tup [], B69 nb n x (.rsl rb rs rc rg ro) 0 ++ J, W⟩ noCall 10 69 [rowF nb n x] []).via ansA =
    bif askFn Tryz.prog 215 [.yfn 8, .ptr 5 0, .ptr 6 0] (B69 nb n x nil0 0) (.tup []) (B69 nb n x (.rsl rb rs rc rg ro) 0 ++ J) W then some (.tup [.rsl rb rs rc rg ro, i64 0, i64 0]) else none := by kernel_rfl
theorem whole69e (nb : Bool) (row : AV) (z : Nat) (e : Int) (J : AHeap) (W : List Nat) : (fnBT Tryz.prog (evGT Tryz.prog noneT 10) noLoop ⟨.tup [], B69e nb n x row z e ++ J, W⟩ noCall 10 69 [rowF nb n x] []).via ansA =
    bif askFn Tryz.prog 215 [.yfn 8, .ptr 5 0, .ptr 6 0] (B69 nb n x nil0 0) (.tup []) (B69e nb n x row z e ++ J) W then some (.tup [nil0, i64 z, i64 e]) else none := by kernel_rfl

theorem readP_ctr {nb : Bool} (hb0 : nb = true → n = 0) (hn : n ≤ 500) {l : List RawD} {z : Nat} {e : Int} (h : Flds n x 0 l z e) (H : AHeap) : Ctr Tryz.prog 69 [rowF nb n x] (readA nlP l z e) H H [] := by
  obtain ⟨row, J, W, hc, ⟨rb, rs, rc, rg, ro, rfl⟩, hw⟩ := ctr215 hb0 hn h
  have key : ∀ (rt : ToldR) (F : Option AV) (u : AV), (fnBT Tryz.prog (evGT Tryz.prog noneT 10) noLoop rt noCall 10 69 [rowF nb n x] []).via ansA = F → F = some u → Wk1 u (readA nlP l z e) → Ctr Tryz.prog 69 [rowF nb n x] (readA nlP l z e) H H [] := by
    intro rt F u ht hF hu
    obtain ⟨r, hr, he⟩ := via_some ht hF
    have hctr := fnBT_ok mixed (evGT_ok mixed (noneT_ok _) 10) noLoop_ok noCall_ok hr
    unfold ansA at he
    rw [he] at hctr
    have hctr := hctr.ansWk hu
    have h0 : Ctr Tryz.prog 69 [rowF nb n x] (readA nlP l z e) [] r.2.1 [] := ⟨hctr.1, fun E w0 w vs hg hr => (hctr.2.1 E w0 w vs hg hr).mono (fun e w' ⟨E', re, ex, g⟩ => ⟨E', re, ex.weaken (Nat.le_refl _) (fun l hl _ => absurd hl (Nat.not_lt_zero _)), g⟩), hctr.2.2.1, fun l hl => absurd hl (Nat.not_lt_zero _)⟩
    exact ctr_any h0 (lf_readA _ _ _ _).1 (lf_readA _ _ _ _).2 rfl H
  by_cases he : e = 0
  · subst he
    have hc : Ctr Tryz.prog 215 [.yfn 8, .ptr 5 0, .ptr 6 0] (.tup []) (B69 nb n x nil0 0) (B69 nb n x (.rsl rb rs rc rg ro) 0 ++ J) W := hc
    have hb := whole69 (n := n) (x := x) nb rb rs rc rg ro J W
    rw [askFn_of hc] at hb
    refine key _ _ _ hb rfl ?_
    unfold readA
    rw [if_pos rfl]
    exact wk_t3 (hw rfl)
  · have e0 : (e == 0) = false := by simpa using he
    unfold end215 at hc
    rw [e0] at hc
    have hc : Ctr Tryz.prog 215 [.yfn 8, .ptr 5 0, .ptr 6 0] (.tup []) (B69 nb n x nil0 0) (B69e nb n x (.rsl rb rs rc rg ro) z e ++ J) W := hc
    have hb := whole69e (n := n) (x := x) nb (.rsl rb rs rc rg ro) z e J W
    rw [askFn_of hc] at hb
    refine key _ _ _ hb rfl ?_
    unfold readA
    rw [if_neg he]
    exact wk_t3 wk_nil4
end
end Go.Proofs.YtiipaliigpkfhaaGreat.Ab
