/- One file with one message of any name: whether the document's checker finds fault. -/
import Derived.Test.YtiipaliigpkfhaaGreatP1
set_option linter.unusedVariables false
set_option linter.unusedSimpArgs false
set_option maxRecDepth 100000
namespace Go.Proofs.YtiipaliigpkfhaaGreat.Ab
open Go Go.RowKit Go.Proofs

def str (l : List UInt8) : AV := .sc (.string ⟨l.toArray⟩)
def msgC (s : ByteArray) : List AV := [.sc (.string s), nil0, nil0, nil0, nil0, nil0, nil0, nil0, nil0, nil0, nil0]
def fileC (s : ByteArray) : List AV := [str [120], str [], nil0, nil0, .rsl false 11 1 (rowOf 11 (msgC s)) .tight, nil0, nil0, nil0, str [], nil0, nil0]
def filesA (s : ByteArray) : AV := .rsl false 11 1 (rowOf 11 (fileC s)) .tight

theorem check_tree (s : ByteArray) : (evGL Tryz.prog (orKnown Tryz.prog 187 .bool) (fun _ => noLoop) 20 51 [filesA s] []).via ansA =
    bif knownB Tryz.prog .bool 187 [.sc (.string s)] then (bif (knownN Tryz.prog .bool 187 [.sc (.string s)] == 1) then (bif decide ((s.size : Int) ≤ 1000) then some (.tup [str [], i64 0, i64 0]) else some (.tup [.sc (.string s), i64 5, i64 160])) else some (.tup [.sc (.string s), i64 5, i64 160])) else none := by kernel_rfl
end Go.Proofs.YtiipaliigpkfhaaGreat.Ab
