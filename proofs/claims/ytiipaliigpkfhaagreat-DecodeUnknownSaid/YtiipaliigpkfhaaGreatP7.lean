/- DecodeUnknown answers true. -/
import Derived.Test.YtiipaliigpkfhaaGreatP6
set_option linter.unusedVariables false
set_option linter.unusedSimpArgs false
set_option maxRecDepth 100000
namespace Go.Proofs.YtiipaliigpkfhaaGreat.Ab
open Go Go.RowKit Go.Proofs

def TT (b : Bool) : Option AV := some (.sc (.bool b))
section
variable (s : ByteArray) (nb : Bool) (n : Nat) (x : Nat → Int) (b rb : Bool) (rl : Nat) (rg : Nat → List AV) (z e : Int) (ob : Bool) (om : Nat) (og : Nat → List AV)
noncomputable def lo13 (u : AV) : LoopO := toldE Tryz.prog [⟨35, .tup [.ptr 19 0, .ptr 3 0, .sc (.bool b)], PH s, []⟩] (told Tryz.prog [] [⟨15, 0, .sc (.bool true)⟩, ⟨43, 0, .tup [.rsl rb 4 rl rg .non, i64 z, i64 e]⟩, ⟨49, 0, .tup [.rsl ob 1 om og .non, i64 0]⟩, ⟨56, 38, .tup [.agg [nil0, u], i64 e]⟩])
noncomputable def ahead13 (K : Option AV) : Option AV :=
  bif askCall Tryz.prog 38 [] [] (.sc (.bool true)) then bif decide ((n : Int) > 500) then TT true else bif (s.toList == (⟨#[]⟩ : ByteArray).toList) then TT true else bif decide ((s.size : Int) > 100) then TT true else K else none
noncomputable def calls13 (u : AV) (e : Int) (K : Option AV) : Option AV :=
  bif askFn Tryz.prog 18 [filesA s] [] (.tup [.ptr 19 0, .ptr 3 0, .sc (.bool true)]) (PH s) [] then bif askCall Tryz.prog 42 [rowF nb n x] [] (.tup [.rsl rb 4 rl rg .non, i64 z, i64 e]) then
    bif askCall Tryz.prog 43 [.rsl rb 4 rl rg .non] [] (.tup [.rsl ob 1 om og .non, i64 0]) then bif askCall Tryz.prog 40 (argsM s nb n x) (PH s) (.tup [.agg [nil0, u], i64 e]) then K else none else none else none else none

theorem unk_good : (evGL Tryz.prog noneT (only 13 (lo13 s true rb rl rg z 0 ob om og (.rsl ob 1 om og .non))) 12 13 [.sc (.string s), rowF nb n x] []).via ansA =
    ahead13 s n (calls13 s nb n x rb rl rg z ob om og (.rsl ob 1 om og .non) 0 (bif (bytesL om og).isSome then bif (bytesL om og).isSome then TT ((rowStr om og).toList == (rowStr om og).toList) else none else none)) := by kernel_rfl
theorem unk_err : (evGL Tryz.prog noneT (only 13 (lo13 s true rb rl rg z e ob om og nil0)) 12 13 [.sc (.string s), rowF nb n x] []).via ansA =
    ahead13 s n (calls13 s nb n x rb rl rg z ob om og nil0 e (bif (e == e) then bif (e != 0) then TT true else bif (bytesL om og).isSome then TT ((⟨#[]⟩ : ByteArray).toList == (rowStr om og).toList) else none else TT false)) := by kernel_rfl
theorem unk_none : (evGL Tryz.prog noneT (only 13 (lo13 s false rb rl rg z e ob om og nil0)) 12 13 [.sc (.string s), rowF nb n x] []).via ansA =
    ahead13 s n (bif askFn Tryz.prog 18 [filesA s] [] (.tup [.ptr 19 0, .ptr 3 0, .sc (.bool false)]) (PH s) [] then TT true else none) := by kernel_rfl
end

theorem bytesL_bEl : ∀ l : List Int, bytesL l.length (bEl l) = some l
  | [] => rfl
  | b :: r => by
    have e : (fun i => bEl (b :: r) (i + 1)) = bEl r := by funext i; simp [bEl]
    have e0 : bEl (b :: r) 0 = [.sc (.int .u8 b)] := by simp [bEl]
    simp only [List.length_cons, bytesL, e0, e, bytesL_bEl r]
    rfl

theorem Ctr.argsWk {P : Program} {g : FuncId} {args args' : List AV} {x : AV} {H H1 : AHeap} {W : List Nat} (h : Ctr P g args' x H H1 W) (w : Wk args args') : Ctr P g args x H H1 W :=
  ⟨h.1, fun E w0 w1 vs hg hr => h.2.1 E w0 w1 vs hg ⟨hr.1.trans w.1, fun i y hy => by
    obtain ⟨z, hz, k⟩ := w.2 i y hy
    exact k _ _ (hr.2 i z hz)⟩, h.2.2⟩

section
variable {s : ByteArray} {nb : Bool} {n : Nat} {x : Nat → Int}
theorem ahead_true {K : Option AV} (aw : ∀ H, Ctr Tryz.prog 38 [] (.sc (.bool true)) H H []) (hK : n ≤ 500 → s.size ≤ 100 → K = TT true) : ahead13 s n K = TT true := by
  unfold ahead13
  rw [askCall_of (aw [])]
  by_cases h1 : (n : Int) > 500
  · rw [decide_eq_true h1]; rfl
  · rw [decide_eq_false h1]
    cases (s.toList == (⟨#[]⟩ : ByteArray).toList) with
    | true => rfl
    | false =>
      by_cases h2 : (s.size : Int) > 100
      · rw [decide_eq_true h2]; rfl
      · rw [decide_eq_false h2, hK (by omega) (by omega)]; rfl

theorem unk_ctr (aw : ∀ H, Ctr Tryz.prog 38 [] (.sc (.bool true)) H H []) (hb0 : nb = true → n = 0) (hx : Bytes n x) : Ctr Tryz.prog 13 [.sc (.string s), rowF nb n x] (.sc (.bool true)) [] [] [] := by
  have lf : ∀ a ∈ [AV.sc (.string s), rowF nb n x], LF a := fun a ha => by
    simp only [List.mem_cons, List.not_mem_nil, or_false] at ha
    rcases ha with rfl | rfl
    · exact .sc _
    · exact lf_rowF _ _ _
  have fin : ∀ (lo : LoopO) (F : Option AV), LoopsOk Tryz.prog lo → (evGL Tryz.prog noneT (only 13 lo) 12 13 [.sc (.string s), rowF nb n x] []).via ansA = F → F = TT true → Ctr Tryz.prog 13 [.sc (.string s), rowF nb n x] (.sc (.bool true)) [] [] [] :=
    fun lo F hl ht hF => ctr_scL mixed (noneT_ok _) (only_ok hl) ht hF lf []
  by_cases hsm : n ≤ 500 ∧ s.size ≤ 100
  · obtain ⟨hn, hs⟩ := hsm
    obtain ⟨b, hp⟩ := pools_ctr (s := s) (by omega)
    cases b with
    | false =>
      refine fin _ _ (toldE_ok told_ok) (unk_none s nb n x false 0 (fun _ => []) 0 0 false 0 (fun _ => [])) (ahead_true aw (fun _ _ => ?_))
      rw [askFn_of hp]; rfl
    | true =>
      obtain ⟨l, z, e, h⟩ := flds_ex hn hx n 0 (by omega) (by omega)
      have hlen := h.len
      by_cases he : e = 0
      · subst he
        refine fin _ _ (toldE_ok told_ok) (unk_good s nb n x l.isEmpty l.length (rawEl nlR l) 0 l.isEmpty (outL l).length (bEl (outL l))) (ahead_true aw (fun _ _ => ?_))
        have c42 : Ctr Tryz.prog 42 [rowF nb n x] (.tup [.rsl l.isEmpty 4 l.length (rawEl nlR l) .non, i64 0, i64 0]) [] [] [] := readR_ctr hn h []
        have c43 : Ctr Tryz.prog 43 [.rsl l.isEmpty 4 l.length (rawEl nlR l) .non] (.tup [.rsl l.isEmpty 1 (outL l).length (bEl (outL l)) .non, i64 0]) [] [] [] := write_ctr h.ok (by omega) []
        have c40 : Ctr Tryz.prog 40 (argsM s nb n x) (.tup [.agg [nil0, .rsl l.isEmpty 1 (outL l).length (bEl (outL l)) .non], i64 0]) (PH s) (PH s) [] := by
          have := dec_ctr (s := s) hb0 (by omega) hn h
          unfold decA at this
          rw [if_pos rfl] at this
          exact this
        unfold calls13
        rw [askFn_of hp, askCall_of c42, askCall_of c43, askCall_of c40, bytesL_bEl]
        show TT _ = TT true
        rw [beq_self_eq_true]
      · refine fin _ _ (toldE_ok told_ok) (unk_err s nb n x true 0 (fun _ => []) z e true 0 (bEl [])) (ahead_true aw (fun _ _ => ?_))
        have c42 : Ctr Tryz.prog 42 [rowF nb n x] (.tup [.rsl true 4 0 (fun _ => []) .non, i64 z, i64 e]) [] [] [] := by
          have := readR_ctr (nl := nb) hn h []
          unfold readA at this
          rw [if_neg he] at this
          exact this
        have c43 : Ctr Tryz.prog 43 [.rsl true 4 0 (fun _ => []) .non] (.tup [.rsl true 1 0 (bEl []) .non, i64 0]) [] [] [] := by
          have : Ctr Tryz.prog 43 [.rsl true 4 0 (rawEl nlR []) .non] (.tup [outRow [], i64 0]) [] [] [] := write_ctr (nl := true) (f := nlR) (l := []) (fun r hr => by simp at hr) (by simp) []
          exact this.argsWk (.cons (Wk1.rsl (fun i hi => absurd hi (Nat.not_lt_zero _))) .nil)
        have c40 : Ctr Tryz.prog 40 (argsM s nb n x) (.tup [.agg [nil0, nil0], i64 e]) (PH s) (PH s) [] := by
          have := dec_ctr (s := s) hb0 (by omega) hn h
          unfold decA at this
          rw [if_neg he] at this
          exact this
        have e0 : (e != 0) = true := by simpa using he
        unfold calls13
        rw [askFn_of hp, askCall_of c42, askCall_of c43, askCall_of c40, beq_self_eq_true, e0]
        rfl
  · exact fin _ _ (toldE_ok told_ok) (unk_none s nb n x false 0 (fun _ => []) 0 0 false 0 (fun _ => [])) (ahead_true aw (fun h1 h2 => absurd ⟨h1, h2⟩ hsm))
end
end Go.Proofs.YtiipaliigpkfhaaGreat.Ab
