/- One file with one message of any name: the pools. -/
import Derived.Test.YtiipaliigpkfhaaGreatP2
import Derived.Test.YtiipaliigpkfhaaGreatN4
set_option linter.unusedVariables false
set_option linter.unusedSimpArgs false
set_option maxRecDepth 100000
namespace Go.Proofs.YtiipaliigpkfhaaGreat.Ab
open Go Go.RowKit Go.Proofs

def PH (s : ByteArray) : AHeap := List.replicate 17 .dead ++ ([.map [(.string s, .ptr 36 0)], .map [], .cells [.mapr 17, .mapr 18, .any]] ++ (List.replicate 16 .dead ++ [.cells ([i64 2, .any, .any, nil0] ++ List.replicate 26 .any), .dead]))
def kPH : List (Nat × List Nat) := [(17, []), (18, []), (19, [0, 1]), (36, [0, 3])]

section
variable (s : ByteArray)
noncomputable def lo18 (nm : AV) (a bad : Int) : LoopO := told Tryz.prog [] [⟨15, 0, .sc (.bool true)⟩, ⟨19, 0, .tup [nm, i64 a, i64 bad]⟩]

theorem all_tree : (evGL Tryz.prog (closedT Tryz.prog [50] 20) (fun _ => noLoop) 20 50 [filesA s] []).via ansA = some (.sc (.bool true)) := by kernel_rfl

theorem pools_good : (evGL Tryz.prog (closedT Tryz.prog [44, 52] 20) (only 18 (lo18 (str []) 0 0)) 20 18 [filesA s] []).via (fun r => (r.1, dimH kPH 0 r.2.1)) =
    bif askCall Tryz.prog 50 [filesA s] [] (.sc (.bool true)) then bif askCall Tryz.prog 51 [filesA s] [] (.tup [str [], i64 0, i64 0]) then some (.tup [.ptr 19 0, .ptr 3 0, .sc (.bool true)], PH s) else none else none := by kernel_rfl
theorem pools_bad : (evGL Tryz.prog (closedT Tryz.prog [44, 52] 20) (only 18 (lo18 (.sc (.string s)) 5 160)) 20 18 [filesA s] []).via (fun r => (r.1, dimH kPH 0 r.2.1)) =
    bif askCall Tryz.prog 50 [filesA s] [] (.sc (.bool true)) then bif askCall Tryz.prog 51 [filesA s] [] (.tup [.sc (.string s), i64 5, i64 160]) then some (.tup [.ptr 19 0, .ptr 3 0, .sc (.bool false)], PH s) else none else none := by kernel_rfl
end

section
variable {s : ByteArray}
theorem lf_files : LF (filesA s) := .rsl _ _ _ _ _ (by simp)

theorem all_ctr (H : AHeap) : Ctr Tryz.prog 50 [filesA s] (.sc (.bool true)) H H [] :=
  ctr_scL mixed (closedT_ok mixed) (fun _ => noLoop_ok) (all_tree s) rfl (fun a ha => by simp at ha; subst ha; exact lf_files) H

theorem check_ctr (hs : s.size ≤ 1000) : (∀ H, Ctr Tryz.prog 51 [filesA s] (.tup [str [], i64 0, i64 0]) H H []) ∨ (∀ H, Ctr Tryz.prog 51 [filesA s] (.tup [.sc (.string s), i64 5, i64 160]) H H []) := by
  have lf : ∀ a b c : Value, LF (.tup [.sc a, .sc b, .sc c]) := fun a b c => .tup _ (fun x hx => by
    simp only [List.mem_cons, List.not_mem_nil, or_false] at hx
    rcases hx with rfl | rfl | rfl <;> exact .sc _)
  have hb := check_tree s
  rw [knownB_of (ident_known s (by omega)), decide_eq_true (by omega : (s.size : Int) ≤ 1000)] at hb
  cases hk : (knownN Tryz.prog .bool 187 [.sc (.string s)] == 1) with
  | true =>
    rw [hk] at hb
    exact .inl (fun H => ctr_lfk mixed orKnown_ok (fun _ => noLoop_ok) hb rfl (fun r => .refl _) (.refl _) (lf _ _ _) rfl rfl H)
  | false =>
    rw [hk] at hb
    exact .inr (fun H => ctr_lfk mixed orKnown_ok (fun _ => noLoop_ok) hb rfl (fun r => .refl _) (.refl _) (lf _ _ _) rfl rfl H)

theorem pools_ctr (hs : s.size ≤ 1000) : ∃ b : Bool, Ctr Tryz.prog 18 [filesA s] (.tup [.ptr 19 0, .ptr 3 0, .sc (.bool b)]) [] (PH s) [] := by
  have key : ∀ (lo : FuncId → LoopO) (F : Option (AV × AHeap)) (b : Bool), (∀ g, LoopsOk Tryz.prog (lo g)) → (evGL Tryz.prog (closedT Tryz.prog [44, 52] 20) lo 20 18 [filesA s] []).via (fun r => (r.1, dimH kPH 0 r.2.1)) = F → F = some (.tup [.ptr 19 0, .ptr 3 0, .sc (.bool b)], PH s) → Ctr Tryz.prog 18 [filesA s] (.tup [.ptr 19 0, .ptr 3 0, .sc (.bool b)]) [] (PH s) [] := by
    intro lo F b hl ht hF
    obtain ⟨r, hr, he⟩ := via_some ht hF
    simp only [Prod.mk.injEq] at he
    have := (evGL_ok mixed (closedT_ok mixed) hl 20 18 _ _ r hr).dim kPH
    rw [he.1, he.2] at this
    exact this
  rcases check_ctr hs with h | h
  · have hb := pools_good s
    rw [askCall_of (all_ctr []), askCall_of (h [])] at hb
    exact ⟨true, key _ _ _ (only_ok told_ok) hb rfl⟩
  · have hb := pools_bad s
    rw [askCall_of (all_ctr []), askCall_of (h [])] at hb
    exact ⟨false, key _ _ _ (only_ok told_ok) hb rfl⟩
end
end Go.Proofs.YtiipaliigpkfhaaGreat.Ab
