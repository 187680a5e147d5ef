/- Rows of bytes as strings; bytes.Equal. -/
import Derived.Test.YtiipaliigpkfhaaGreatG3
import Derived.Laws.Strings
set_option linter.unusedVariables false
set_option linter.unusedSimpArgs false
set_option maxRecDepth 100000
namespace Go.Proofs.YtiipaliigpkfhaaGreat.Ab
open Go Go.RowKit Go.Proofs

def ints (l : List UInt8) : List Int := l.map fun b => (b.toNat : Int)
/-- Bytes as a string. -/
def strOf (l : List UInt8) : ByteArray := strB (ints l)

theorem bytesL_row : ∀ l : List UInt8, bytesL l.length (rowB l) = some (ints l)
  | [] => rfl
  | b :: r => by
    have e : (fun i => rowB (b :: r) (i + 1)) = rowB r := by funext i; simp [rowB]
    have e0 : rowB (b :: r) 0 = [.sc (.int .u8 (b.toNat : Int))] := by simp [rowB, encByte]
    simp only [List.length_cons, bytesL, e0, e, bytesL_row r]
    rfl

theorem strB_fold (ns : List Int) : ∀ acc : ByteArray, (ns.foldl (fun r n => r.push (UInt8.ofNat n.toNat)) acc).data.toList = acc.data.toList ++ ns.map (fun n => UInt8.ofNat n.toNat) := by
  induction ns with
  | nil => intro acc; simp
  | cons n r ih =>
    intro acc
    rw [List.foldl_cons, ih]
    simp [ByteArray.push]

theorem strOf_list (l : List UInt8) : (strOf l).data.toList = l := by
  unfold strOf strB
  rw [strB_fold]
  have e : ByteArray.empty.data.toList = [] := rfl
  rw [e, List.nil_append]
  simp [ints, Function.comp_def]

theorem strOf_toList (l : List UInt8) : (strOf l).toList = l := by rw [ByteArray.toList_eq, strOf_list]

def rowStr (n : Nat) (f : Nat → List AV) : ByteArray := strB ((bytesL n f).getD [])
theorem rowStr_eq (l : List UInt8) : rowStr l.length (rowB l) = strOf l := by unfold rowStr; rw [bytesL_row]; rfl

theorem equal_tree (a b : Bool) (n m : Nat) (f g : Nat → List AV) : (evGT Tryz.prog noneT 10 72 [.rsl a 1 n f .non, .rsl b 1 m g .non] []).via ansA =
    bif (bytesL n f).isSome then (bif (bytesL m g).isSome then T ((rowStr n f).toList == (rowStr m g).toList) else none) else none := by kernel_rfl

theorem equal_ctr (a b : Bool) (l l' : List UInt8) (H : AHeap) : Ctr Tryz.prog 72 [.rsl a 1 l.length (rowB l) .non, .rsl b 1 l'.length (rowB l') .non] (.sc (.bool (l == l'))) H H [] := by
  refine ctr_sc mixed (noneT_ok _) (equal_tree a b l.length l'.length (rowB l) (rowB l')) ?_ (fun x hx => ?_) H
  · rw [bytesL_row, bytesL_row, rowStr_eq, rowStr_eq, strOf_toList, strOf_toList]; rfl
  · simp only [List.mem_cons, List.mem_nil_iff, or_false] at hx
    rcases hx with rfl | rfl
    · exact .rsl _ _ _ _ _ (by simp)
    · exact .rsl _ _ _ _ _ (by simp)
end Go.Proofs.YtiipaliigpkfhaaGreat.Ab
