/- The program's decoding of a message that has no fields. -/
import Derived.Test.YtiipaliigpkfhaaGreatP5
import Derived.Test.YtiipaliigpkfhaaGreatN6
set_option linter.unusedVariables false
set_option linter.unusedSimpArgs false
set_option maxRecDepth 100000
namespace Go.Proofs.YtiipaliigpkfhaaGreat.Ab
open Go Go.RowKit Go.Proofs

def noR : ToldR := ⟨.any, [], []⟩
section
variable (s : ByteArray) (nb : Bool) (n : Nat) (x : Nat → Int)
def argsM : List AV := [.ptr 19 0, .sc (.string s), rowF nb n x]
def args92 (u : AV) : List AV := [.agg [.ptr 19 0], .sc (.string s), .agg [nil0, u]]

theorem whole_tree (b : Bool) (m : Nat) (g : Nat → List AV) : (evGL Tryz.prog noneT (only 92 (told Tryz.prog [] [⟨15, 38, nil0⟩])) 12 92 (args92 s (.rsl b 1 m g .non)) (PH s)).via (fun r => (r.1, r.2.2)) =
    bif askCall Tryz.prog 56 [.ptr 19 0, .sc (.string s)] (PH s) nil0 then some (.tup [], []) else none := by kernel_rfl

noncomputable def loM (u : AV) : LoopO := told Tryz.prog [] [⟨11, 38, i64 2⟩, ⟨20, 38, .agg [nil0, u]⟩, ⟨24, 38, .tup []⟩]
theorem dec_tree (b : Bool) (m : Nat) (g : Nat → List AV) : (fnBT Tryz.prog (evGT Tryz.prog noneT 12) (loM (.rsl b 1 m g .non)) noR (callG Tryz.prog 12) 12 40 (argsM s nb n x) (PH s)).via (fun r => (r.1, r.2.2)) =
    bif askCall Tryz.prog 63 [.ptr 19 0, .sc (.string s)] (PH s) (i64 2) then bif askCall Tryz.prog 91 (args91 s nb n x) (PH s) (.agg [nil0, .rsl b 1 m g .non]) then
      bif askCall Tryz.prog 92 (args92 s (.rsl b 1 m g .non)) (PH s) (.tup []) then some (.tup [.agg [nil0, .rsl b 1 m g .non], i64 0], []) else none else none else none := by kernel_rfl

theorem decPan_tree (e : Int) : (fnPT Tryz.prog (evGT Tryz.prog noneT 12) (toldP Tryz.prog (evGT Tryz.prog noneT 12) [(5, 3, wrongA e)] (told Tryz.prog [] [⟨11, 38, i64 2⟩])) noR (callG Tryz.prog 12) 12 40 (argsM s nb n x) (PH s)).via (fun r => (r.1, r.2.2)) =
    bif askCall Tryz.prog 63 [.ptr 19 0, .sc (.string s)] (PH s) (i64 2) then bif askPan Tryz.prog 91 (args91 s nb n x) (PH s ++ [.cells [nil0, nil0], .cells [i64 0], .cells [.ptr 19 0]]) (wrongA e) then some (.tup [.agg [nil0, nil0], i64 e], []) else none else none := by kernel_rfl
end

section
variable {s : ByteArray} {nb : Bool} {n : Nat} {x : Nat → Int}
theorem PH_len (s : ByteArray) : (PH s).length = 38 := by simp [PH]

theorem whole_ctr (hs : s.size ≤ 1000) (b : Bool) (m : Nat) (g : Nat → List AV) : Ctr Tryz.prog 92 (args92 s (.rsl b 1 m g .non)) (.tup []) (PH s) (PH s) [] := by
  have hb := whole_tree s b m g
  rw [askCall_of (list_ctr hs)] at hb
  obtain ⟨r, hr, he⟩ := via_some hb rfl
  have := evGL_ok mixed (noneT_ok _) (only_ok told_ok) 12 92 _ _ r hr
  simp only [Prod.mk.injEq] at he
  rw [he.1, he.2] at this
  exact ctr_forget this (.tup _ (fun x hx => by simp at hx))

/-- What the program's decoding answers. -/
noncomputable def decA (l : List RawD) (e : Int) : AV := .tup [.agg [nil0, if e = 0 then outRow l else nil0], i64 e]

theorem lf_dec (l : List RawD) (e : Int) : LF (decA l e) := .tup _ (fun y hy => by
  simp only [List.mem_cons, List.not_mem_nil, or_false] at hy
  rcases hy with rfl | rfl
  · refine .agg _ (fun z hz => ?_)
    simp only [List.mem_cons, List.not_mem_nil, or_false] at hz
    rcases hz with rfl | rfl
    · exact lf_nil0
    · split
      · exact .rsl _ _ _ _ _ (by simp)
      · exact lf_nil0
  · exact .sc _)

theorem dec_ctr (hb0 : nb = true → n = 0) (hs : s.size ≤ 1000) (hn : n ≤ 500) {l : List RawD} {z : Nat} {e : Int} (h : Flds n x 0 l z e) : Ctr Tryz.prog 40 (argsM s nb n x) (decA l e) (PH s) (PH s) [] := by
  by_cases he : e = 0
  · subst he
    have hb := dec_tree s nb n x l.isEmpty (outL l).length (bEl (outL l))
    have hm : Ctr Tryz.prog 91 (args91 s nb n x) (.agg [nil0, .rsl l.isEmpty 1 (outL l).length (bEl (outL l)) .non]) (PH s) (PH s) [] := msg_ctr hb0 hs hn h
    rw [askCall_of kind_ctr, askCall_of hm, askCall_of (whole_ctr hs _ _ _)] at hb
    obtain ⟨r, hr, he⟩ := via_some hb rfl
    have := fnBT_ok mixed (evGT_ok mixed (noneT_ok _) 12) told_ok (callG_ok mixed 12) hr
    simp only [Prod.mk.injEq] at he
    rw [he.1, he.2] at this
    exact ctr_forget this (lf_dec l 0)
  · have hb := decPan_tree s nb n x e
    have hp := (msg_pan (s := s) hb0 hn h he).beside (by rw [PH_len]; rfl) (by rw [PH_len]; rfl) (by rw [PH_len]; exact lbPH s) [.cells [nil0, nil0], .cells [i64 0], .cells [.ptr 19 0]]
    rw [askCall_of kind_ctr, askPan_of hp] at hb
    obtain ⟨r, hr, he2⟩ := via_some hb rfl
    have := fnPT_ok mixed (evGT_ok mixed (noneT_ok _) 12) (toldP_ok (evGT_ok mixed (noneT_ok _) 12) told_ok) (callG_ok mixed 12) hr
    simp only [Prod.mk.injEq] at he2
    rw [he2.1, he2.2] at this
    have e1 : decA l e = .tup [.agg [nil0, nil0], i64 e] := by unfold decA; rw [if_neg he]
    have := ctr_forget this (e1 ▸ lf_dec l e)
    rw [e1]
    exact this
end
end Go.Proofs.YtiipaliigpkfhaaGreat.Ab
