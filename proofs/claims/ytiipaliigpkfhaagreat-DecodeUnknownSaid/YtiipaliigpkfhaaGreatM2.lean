/- Fields that are read: the program's and the document's functions answer alike. -/
import Derived.Test.YtiipaliigpkfhaaGreatM1
import Derived.Test.YtiipaliigpkfhaaGreatN1
set_option linter.unusedVariables false
set_option linter.unusedSimpArgs false
set_option maxRecDepth 100000
namespace Go.Proofs.YtiipaliigpkfhaaGreat.Ab
open Go Go.RowKit Go.Proofs

/-! ### Numbers of full length -/
def unf (y : Nat → Int) : Nat → Int
  | 0 => 0
  | m + 1 => orI .u64 (unf y m) (IntKind.wrap .u64 (IntKind.wrap .u64 (y m) * 2 ^ (8 * m)))

theorem unfP_tree (nl : Bool) (y : Nat → Int) : (evGT Tryz.prog noneT 14 226 [rowF nl 8 y] []).via ansA = some (.sc (.int .u64 (unf y 8))) ∧ (evGT Tryz.prog noneT 14 226 [rowF nl 4 y] []).via ansA = some (.sc (.int .u64 (unf y 4))) := ⟨by kernel_rfl, by kernel_rfl⟩
theorem unfR_tree (nl : Bool) (y : Nat → Int) : (evGT Tryz.prog noneT 14 158 [rowF nl 8 y] []).via ansA = some (.sc (.int .u64 (unf y 8))) ∧ (evGT Tryz.prog noneT 14 158 [rowF nl 4 y] []).via ansA = some (.sc (.int .u64 (unf y 4))) := ⟨by kernel_rfl, by kernel_rfl⟩

theorem lf_rowF (nl : Bool) (n : Nat) (y : Nat → Int) : LF (rowF nl n y) := .rsl _ _ _ _ _ (by simp)
theorem lfs_row {nl : Bool} {n : Nat} {y : Nat → Int} : ∀ a ∈ [rowF nl n y], LF a := fun a ha => by simp at ha; subst ha; exact lf_rowF _ _ _

theorem unfP_ctr (nl : Bool) (y : Nat → Int) (H : AHeap) : Ctr Tryz.prog 226 [rowF nl 8 y] (.sc (.int .u64 (unf y 8))) H H [] ∧ Ctr Tryz.prog 226 [rowF nl 4 y] (.sc (.int .u64 (unf y 4))) H H [] :=
  ⟨ctr_sc mixed (noneT_ok _) (unfP_tree nl y).1 rfl lfs_row H, ctr_sc mixed (noneT_ok _) (unfP_tree nl y).2 rfl lfs_row H⟩
theorem unfR_ctr (nl : Bool) (y : Nat → Int) (H : AHeap) : Ctr Tryz.prog 158 [rowF nl 8 y] (.sc (.int .u64 (unf y 8))) H H [] ∧ Ctr Tryz.prog 158 [rowF nl 4 y] (.sc (.int .u64 (unf y 4))) H H [] :=
  ⟨ctr_sc mixed (noneT_ok _) (unfR_tree nl y).1 rfl lfs_row H, ctr_sc mixed (noneT_ok _) (unfR_tree nl y).2 rfl lfs_row H⟩

theorem orI_range (a b : Int) : 0 ≤ orI .u64 a b ∧ orI .u64 a b < 18446744073709551616 := by
  unfold orI
  rw [wrap_u64']
  omega
theorem unf_range (y : Nat → Int) : ∀ m, 0 ≤ unf y m ∧ unf y m < 18446744073709551616
  | 0 => by simp [unf]
  | m + 1 => orI_range _ _

/-! ### The answers, seen -/
/-- A row seen as far as it goes. -/
def seeB : AV → AV
  | .rsl nl sz n el _ => .rsl nl sz n (fun i => bif Nat.blt i n then el i else []) .non
  | v => v
theorem seeB_wk (v : AV) : Wk1 v (seeB v) := by
  cases v with
  | rsl nl sz n el own =>
    refine Wk1.row (fun i hi => ?_)
    have : Nat.blt i n = true := by simpa [Nat.blt_eq] using hi
    rw [this]; rfl
  | _ => exact .refl _

def seeT : AV → AV
  | .tup [.agg [a, b, c, d], k, e] => .tup [.agg [a, b, c, seeB d], k, e]
  | v => v
theorem seeT_wk (v : AV) : Wk1 v (seeT v) := by
  unfold seeT
  split
  · exact .tup (.cons (.agg (.cons (.refl _) (.cons (.refl _) (.cons (.refl _) (.cons (seeB_wk _) .nil))))) (.cons (.refl _) (.cons (.refl _) .nil)))
  · exact .refl _
def seeR (r : AV × AHeap × List Nat) : AV := seeT r.1

def nilB : AV := .rsl true 0 0 (fun _ => []) .non
def okA (num kd nn : Int) (B : AV) (k : Int) : AV := .tup [.agg [i64 num, i64 kd, .sc (.int .u64 nn), B], i64 k, i64 0]
def errA (e : Int) : AV := .tup [.agg [i64 0, i64 0, .sc (.int .u64 0), nilB], i64 0, i64 e]

noncomputable def tkL (s1 g0 : Nat) (tag e u e2 N : Int) (k k2 : Nat) : FuncId → LoopO := fun g => if g = g0 then told Tryz.prog [] [⟨s1, 0, trip tag k e⟩, ⟨63, 0, .sc (.int .u64 N)⟩, ⟨71, 0, trip u k2 e2⟩] else noLoop
theorem tkL_ok {s1 g0 : Nat} {tag e u e2 N : Int} {k k2 : Nat} (g : FuncId) : LoopsOk Tryz.prog (tkL s1 g0 tag e u e2 N k k2 g) := by
  unfold tkL
  split
  · exact told_ok
  · exact noLoop_ok

section
variable (nl : Bool) (n : Nat) (x : Nat → Int) (tag e u e2 N : Int) (k k2 : Nat)

noncomputable def fixT (c : FuncId) (num kd : Int) (sz : Nat) : Option AV :=
  bif decide (((n - k : Nat) : Int) < (sz : Int)) then some (errA 21) else bif decide ((0 : Int) ≤ 0 ∧ (0 : Int) ≤ (sz : Int) ∧ (sz : Int) ≤ ((n - k : Nat) : Int)) then
    bif askCall Tryz.prog c [rowF nl sz (fun i => x (i + k))] [] (.sc (.int .u64 N)) then some (okA num kd N nilB (IntKind.wrap .i64 ((k : Int) + (sz : Int)))) else none else none

noncomputable def varT (c : FuncId) (num kd : Int) (empty : AV) : Option AV :=
  bif askCall Tryz.prog c [rowF nl (n - k) (fun i => x (i + k))] [] (trip u k2 e2) then bif (e2 != 0) then some (errA e2) else
    bif (kd == 0) then some (okA num kd u nilB (IntKind.wrap .i64 ((k : Int) + (k2 : Int)))) else
    bif decide (u > IntKind.wrap .u64 (IntKind.wrap .i64 (((n - k : Nat) : Int) - (k2 : Int)))) then some (errA 21) else
    bif decide ((0 : Int) ≤ (k2 : Int) ∧ (k2 : Int) ≤ IntKind.wrap .i64 ((k2 : Int) + IntKind.wrap .i64 u) ∧ IntKind.wrap .i64 ((k2 : Int) + IntKind.wrap .i64 u) ≤ ((n - k : Nat) : Int)) then
      bif decide ((IntKind.wrap .i64 ((k2 : Int) + IntKind.wrap .i64 u)).toNat - k2 = 0) then some (okA num kd 0 empty (IntKind.wrap .i64 (IntKind.wrap .i64 ((k : Int) + (k2 : Int)) + IntKind.wrap .i64 u))) else
      bif decide ((0 + ((IntKind.wrap .i64 ((k2 : Int) + IntKind.wrap .i64 u)).toNat - k2)) * 1 ≤ 70368744177664 ∧ 0 + ((IntKind.wrap .i64 ((k2 : Int) + IntKind.wrap .i64 u)).toNat - k2) < 4611686018427387904) then
        some (okA num kd 0 (.rsl false 1 (0 + ((IntKind.wrap .i64 ((k2 : Int) + IntKind.wrap .i64 u)).toNat - k2)) (fun i => bif Nat.blt i (0 + ((IntKind.wrap .i64 ((k2 : Int) + IntKind.wrap .i64 u)).toNat - k2)) then [.sc (.int .u8 (x (i + k2 + k)))] else []) .non) (IntKind.wrap .i64 (IntKind.wrap .i64 ((k : Int) + (k2 : Int)) + IntKind.wrap .i64 u))) else none
    else none
  else none

def sliceC (z : Option AV) : Option AV := bif decide ((0 : Int) ≤ (k : Int) ∧ (k : Int) ≤ (n : Int) ∧ (n : Int) ≤ (n : Int)) then z else none
def chkP (num : Int) (z : Option AV) : Option AV := bif (tag.fdiv (2 ^ 32) != 0) then some (errA 20) else bif (num == 0) then some (errA 20) else z

noncomputable def bodP (num kd : Int) : Option AV :=
  bif (kd == 1) then chkP tag num (sliceC n k (fixT nl n x N k 226 num kd 8)) else bif (kd == 5) then chkP tag num (sliceC n k (fixT nl n x N k 226 num kd 4)) else
  bif (kd == 0) then chkP tag num (sliceC n k (varT nl n x u e2 k k2 225 num kd (.rsl false 1 0 (fun _ => []) .non))) else
  bif (kd == 2) then chkP tag num (sliceC n k (varT nl n x u e2 k k2 225 num kd (.rsl false 1 0 (fun _ => []) .non))) else chkP tag num (some (errA 20))
noncomputable def bodR (num kd : Int) : Option AV :=
  let rest := sliceC n k (bif (kd == 1) then (bif (kd == 5) then fixT nl n x N k 158 num kd 4 else fixT nl n x N k 158 num kd 8) else bif (kd == 5) then (bif (kd == 5) then fixT nl n x N k 158 num kd 4 else fixT nl n x N k 158 num kd 8) else varT nl n x u e2 k k2 156 num kd nilB)
  bif (kd == 0) then rest else bif (kd == 1) then rest else bif (kd == 2) then rest else bif !(kd == 5) then some (errA 20) else rest

theorem takeP2_tree : (evGL Tryz.prog noneT (tkL 16 216 tag e u e2 N k k2) 14 216 [rowF false n x] []).via seeR =
    bif askCall Tryz.prog 225 [rowF false n x] [] (trip tag k e) then bif (e != 0) then some (errA e) else bodP false n x tag u e2 N k k2 (IntKind.wrap .i64 (tag.fdiv (2 ^ 3))) (IntKind.wrap .i64 (andI .u64 tag 7)) else none := by kernel_rfl
theorem takeR2_tree : (evGL Tryz.prog noneT (tkL 15 94 tag e u e2 N k k2) 14 94 [rowF nl n x] []).via seeR =
    bif askCall Tryz.prog 156 [rowF nl n x] [] (trip tag k e) then bif (e != 0) then some (errA e) else bif decide (tag ≥ 4294967296) then some (errA 20) else bif decide (tag < 8) then some (errA 20) else
      bodR nl n x u e2 N k k2 (IntKind.wrap .i64 (IntKind.wrap .u64 (tag.tdiv 8))) (IntKind.wrap .i64 (tag.tmod 8)) else none := by kernel_rfl
end
end Go.Proofs.YtiipaliigpkfhaaGreat.Ab
