/- The message, or the panic. -/
import Derived.Test.YtiipaliigpkfhaaGreatP4
set_option linter.unusedVariables false
set_option linter.unusedSimpArgs false
set_option maxRecDepth 100000
namespace Go.Proofs.YtiipaliigpkfhaaGreat.Ab
open Go Go.RowKit Go.Proofs

def wrongA (e : Int) : AV := .ifc 151 (.agg [i64 e])
theorem lf_wrong (e : Int) : LF (wrongA e) := .ifc _ _ (.agg _ (fun x hx => by
  simp only [List.mem_cons, List.not_mem_nil, or_false] at hx
  subst hx; exact .sc _))

noncomputable def bodyC (f : Func) : Code := f.body.getD .skip
noncomputable def seeP (n : Nat) (r : OutE) : AExit × List Nat := (r.1, below n r.2.2.2)

theorem must_tree (e : Int) : (evCT Tryz.prog (evGT Tryz.prog noneT 10) (toldP Tryz.prog (evGT Tryz.prog noneT 10) [(1, 3, .any)] noLoop) 10 (bodyC Tryz.f144) (startA Tryz.f144 [.sc (.bool false), i64 e]) []).via (seeP 0) = some (.panic (wrongA e), []) := by kernel_rfl

theorem func144 : Tryz.prog.funcs[144]? = some Tryz.f144 := by kernel_rfl
theorem func91 : Tryz.prog.funcs[91]? = some Tryz.f91 := by kernel_rfl
theorem body144 : Tryz.f144.body = some (bodyC Tryz.f144) := by kernel_rfl
theorem body91 : Tryz.f91.body = some (bodyC Tryz.f91) := by kernel_rfl

theorem must_pan (e : Int) (H : AHeap) : CtrPan Tryz.prog 144 [.sc (.bool false), i64 e] (wrongA e) H H [] := by
  obtain ⟨⟨x, T, H1, W⟩, hr, he⟩ := via_some (must_tree e) rfl
  simp only [seeP, Prod.mk.injEq] at he
  obtain ⟨rfl, hW⟩ := he
  have hok := evCT_ok mixed (evGT_ok mixed (noneT_ok _) 10) (toldP_ok (evGT_ok mixed (noneT_ok _) 10) noLoop_ok) 10 _ _ _ _ _ _ _ hr
  have h := ctrPan_of_code func144 (by kernel_rfl) body144 hok
  simp only [List.length_nil] at h
  rw [hW] at h
  exact h.any (lf_wrong e) rfl rfl H

section
variable (s : ByteArray) (nb : Bool) (n : Nat) (x : Nat → Int)
def args91 : List AV := [.agg [.ptr 19 0], .sc (.string s), rowF nb n x, i64 0]
noncomputable def lo91w (nl : Bool) (l : List RawD) (u : AV) (J : AHeap) : LoopO := toldX Tryz.prog [⟨7, ks91, .exit 0, T91 nl l l.length, B91 s u ++ J, [38, 39, 40, 41]⟩] (told Tryz.prog [] [⟨24, 0, .tup [.rsl nl 4 l.length (rawEl nlP l) .non, i64 0, i64 0]⟩, ⟨35, 38, nil0⟩])

theorem msg_tree (nl : Bool) (l : List RawD) (rb : Bool) (rs rc : Nat) (rg : Nat → List AV) (ro : Own) (J : AHeap) : (evGL Tryz.prog noneT (only 91 (lo91w s nl l (.rsl rb rs rc rg ro) J)) 12 91 (args91 s nb n x) (PH s)).via (fun r => (r.1, r.2.2)) =
    bif askCall Tryz.prog 69 [rowF nb n x] [] (.tup [.rsl nl 4 l.length (rawEl nlP l) .non, i64 0, i64 0]) then bif askCall Tryz.prog 56 [.ptr 19 0, .sc (.string s)] (PH s) nil0 then
      bif askX Tryz.prog (loopOf Tryz.f91 7) (T91 nl l ((0 : Nat) : Int)) (B91 s nil0) (.exit 0) (T91 nl l l.length) (B91 s (.rsl rb rs rc rg ro) ++ J) [38, 39, 40, 41] then some (.agg [nil0, .rsl rb rs rc rg ro], []) else none else none else none := by kernel_rfl

theorem msgPan_tree (z : Nat) (e : Int) : (evCT Tryz.prog (evGT Tryz.prog noneT 12) (toldP Tryz.prog (evGT Tryz.prog noneT 12) [(3, 3, wrongA e)] (told Tryz.prog [] [⟨24, 0, .tup [.rsl true 4 0 (fun _ => []) .non, i64 z, i64 e]⟩])) 12 (bodyC Tryz.f91) (startA Tryz.f91 (args91 s nb n x)) (PH s)).via (seeP 38) =
    bif askCall Tryz.prog 69 [rowF nb n x] [] (.tup [.rsl true 4 0 (fun _ => []) .non, i64 z, i64 e]) then bif askPan Tryz.prog 144 [.sc (.bool (e == 0)), i64 e] (PH s ++ [.cells [.ptr 19 0], .cells [nil0, nil0]]) (wrongA e) then some (.panic (wrongA e), []) else none else none := by kernel_rfl
end

section
variable {s : ByteArray} {nb : Bool} {n : Nat} {x : Nat → Int}
theorem lf_kept (l : List RawD) : LF (.agg [nil0, outRow l]) := .agg _ (fun y hy => by
  simp only [List.mem_cons, List.not_mem_nil, or_false] at hy
  rcases hy with rfl | rfl
  · exact lf_nil0
  · exact .rsl _ _ _ _ _ (by simp))

theorem msg_ctr (hb0 : nb = true → n = 0) (hs : s.size ≤ 1000) (hn : n ≤ 500) {l : List RawD} {z : Nat} (h : Flds n x 0 l z 0) : Ctr Tryz.prog 91 (args91 s nb n x) (.agg [nil0, outRow l]) (PH s) (PH s) [] := by
  have hlen := h.len
  obtain ⟨u, J, hok, ⟨rb, rs, rc, rg, ro, rfl⟩, hu⟩ := all91 (s := s) (nl := l.isEmpty) h.ok (by omega)
  have hb := msg_tree s nb n x l.isEmpty l rb rs rc rg ro J
  have hr := readP_ctr hb0 hn h []
  have hr : Ctr Tryz.prog 69 [rowF nb n x] (.tup [.rsl l.isEmpty 4 l.length (rawEl nlP l) .non, i64 0, i64 0]) [] [] [] := hr
  rw [askCall_of hr, askCall_of (list_ctr hs), askX_of hok] at hb
  obtain ⟨r, hr2, he⟩ := via_some hb rfl
  have := evGL_ok mixed (noneT_ok _) (only_ok (toldX_ok told_ok)) 12 91 _ _ r hr2
  simp only [Prod.mk.injEq] at he
  rw [he.1, he.2] at this
  exact ctr_forget (this.ansWk (.agg (.cons (.refl _) (.cons hu .nil)))) (lf_kept l)

theorem msg_pan (hb0 : nb = true → n = 0) (hn : n ≤ 500) {l : List RawD} {z : Nat} {e : Int} (h : Flds n x 0 l z e) (he : e ≠ 0) : CtrPan Tryz.prog 91 (args91 s nb n x) (wrongA e) (PH s) (PH s) [] := by
  have hb := msgPan_tree s nb n x z e
  have hr := readP_ctr hb0 hn h []
  unfold readA at hr
  rw [if_neg he] at hr
  have e0 : (e == 0) = false := by simpa using he
  rw [askCall_of hr, e0, askPan_of (must_pan e _)] at hb
  obtain ⟨⟨y, T, H1, W⟩, hr2, he2⟩ := via_some hb rfl
  simp only [seeP, Prod.mk.injEq] at he2
  obtain ⟨rfl, hW⟩ := he2
  have hok := evCT_ok mixed (evGT_ok mixed (noneT_ok _) 12) (toldP_ok (evGT_ok mixed (noneT_ok _) 12) told_ok) 12 _ _ _ _ _ _ _ hr2
  have h := ctrPan_of_code func91 (by kernel_rfl) body91 hok
  have hl : (PH s).length = 38 := by simp [PH]
  rw [hl, hW] at h
  exact h.forget (lf_wrong e)
end
end Go.Proofs.YtiipaliigpkfhaaGreat.Ab
