/- A field as bytes: the program's function and the document's. -/
import Derived.Test.YtiipaliigpkfhaaGreatM6
set_option linter.unusedVariables false
set_option linter.unusedSimpArgs false
set_option maxRecDepth 100000
namespace Go.Proofs.YtiipaliigpkfhaaGreat.Ab
open Go Go.RowKit Go.Proofs

def rowBy (l : List Int) : AV := .rsl false 1 l.length (bEl l) .non

section
variable (num nn : Int) (b : Bool) (m : Nat) (y : Nat → Int) (lt l2 : List Int)
noncomputable def loPut (s0 s1 : Nat) (kd : Int) : LoopO := toldE Tryz.prog [⟨s0, rowT lt 1, [.cells (RawD.cells b ⟨num, kd, nn, m, y⟩), .tail lt.length 1], []⟩] (told Tryz.prog [] [⟨s1, 0, rowBy l2⟩])

/-- More bytes behind. -/
def appB (n1 : Nat) (el1 : Nat → List AV) (m : Nat) (el2 : Nat → List AV) (K : Nat → (Nat → List AV) → Option AV) : Option AV :=
  bif decide (m = 0) then K n1 el1 else bif decide ((n1 + m) * 1 ≤ 70368744177664 ∧ n1 + m < 4611686018427387904) then bif decide (n1 = n1) then K (n1 + m) (catEl n1 el1 el2) else none else none

def doneB (n : Nat) (el : Nat → List AV) : Option AV := some (.tup [.rsl false 1 n el (.tok 1), i64 0])
noncomputable def putE (c c2 : FuncId) (kd tag : Int) (args : List AV) (K : Option AV) : Option AV :=
  bif decide (num < 1) then some (.tup [nil0, i64 20]) else bif decide (num > 536870911) then some (.tup [nil0, i64 20]) else
    bif askFn Tryz.prog c [.sc (.int .u64 tag)] [.cells (RawD.cells b ⟨num, kd, nn, m, y⟩)] (rowT lt 1) [.cells (RawD.cells b ⟨num, kd, nn, m, y⟩), .tail lt.length 1] [] then
      bif askCall Tryz.prog c2 args [] (rowBy l2) then K else none else none
def tagP (kd : Int) : Int := orI .u64 (IntKind.wrap .u64 (IntKind.wrap .u64 num * 2 ^ 3)) (IntKind.wrap .u64 kd)
def tagR (kd : Int) : Int := IntKind.wrap .u64 (IntKind.wrap .i64 (IntKind.wrap .i64 (8 * num) + kd))
def app1 : Option AV := appB lt.length (bEl lt) l2.length (bEl l2) doneB
def app2 : Option AV := appB lt.length (bEl lt) l2.length (bEl l2) (fun n e => appB n e m (fun i => [.sc (.int .u8 (y i))]) doneB)

noncomputable abbrev evP1 (g : FuncId) (s0 s1 : Nat) (kd : Int) : Option AV := (evGL Tryz.prog noneT (only g (loPut num nn b m y lt l2 s0 s1 kd)) 12 g [.agg (RawD.cells b ⟨num, kd, nn, m, y⟩)] []).via ansA
theorem putP0 : evP1 num nn b m y lt l2 142 33 61 0 = putE num nn b m y lt l2 80 80 0 (tagP num 0) [.sc (.int .u64 nn)] (app1 lt l2) := by kernel_rfl
theorem putP1 : evP1 num nn b m y lt l2 142 33 52 1 = putE num nn b m y lt l2 80 82 1 (tagP num 1) [.sc (.int .u64 nn), i64 8] (app1 lt l2) := by kernel_rfl
theorem putP5 : evP1 num nn b m y lt l2 142 33 52 5 = putE num nn b m y lt l2 80 82 5 (tagP num 5) [.sc (.int .u64 nn), i64 4] (app1 lt l2) := by kernel_rfl
theorem putP2 : evP1 num nn b m y lt l2 142 33 39 2 = putE num nn b m y lt l2 80 80 2 (tagP num 2) [.sc (.int .u64 (IntKind.wrap .u64 (m : Int)))] (app2 m y lt l2) := by kernel_rfl
theorem putR0 : evP1 num nn b m y lt l2 95 26 34 0 = putE num nn b m y lt l2 83 83 0 (tagR num 0) [.sc (.int .u64 nn)] (app1 lt l2) := by kernel_rfl
theorem putR1 : evP1 num nn b m y lt l2 95 26 41 1 = putE num nn b m y lt l2 83 85 1 (tagR num 1) [.sc (.int .u64 nn), i64 8] (app1 lt l2) := by kernel_rfl
theorem putR5 : evP1 num nn b m y lt l2 95 26 48 5 = putE num nn b m y lt l2 83 85 5 (tagR num 5) [.sc (.int .u64 nn), i64 4] (app1 lt l2) := by kernel_rfl
theorem putR2 : evP1 num nn b m y lt l2 95 26 57 2 = putE num nn b m y lt l2 83 83 2 (tagR num 2) [.sc (.int .u64 (IntKind.wrap .u64 (m : Int)))] (app2 m y lt l2) := by kernel_rfl
end
end Go.Proofs.YtiipaliigpkfhaaGreat.Ab
