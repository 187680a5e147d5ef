/- Part 17: contracts; one operation, reckoned. -/
import Derived.Test.YtiipaliigpkfhaaGreatB7
set_option linter.unusedVariables false
set_option linter.unusedSimpArgs false
namespace Go.Proofs.YtiipaliigpkfhaaGreat.Ab
open Go Go.RowKit

/-- A contract. -/
def Ctr (P : Program) (g : FuncId) (args : List AV) (x : AV) (H H1 : AHeap) (Wr : List Nat) : Prop :=
  HasBody P g ∧ CallsA P g args (.ret x) H H1 (· ∈ Wr) ∧ Keeps H H1 Wr

def step1 (P : Program) (o : Oper) (T : List AV) (H : AHeap) : Option (AV × AHeap × Bool × Rd × List Nat) :=
  match stepS P o T H with
  | some x => some (x, H, true, rdOf o T, [])
  | none => match stepX P o T H with
    | some (x, H1, Wr) => some (x, H1, false, rd0, Wr)
    | none => none

/-- A call's callee and arguments. -/
def calleeA (o : Oper) (T : List AV) : Option (FuncId × List AV) :=
  match o.op with
  | .call c => match c.callee with
    | .value f => match opdA T f with
      | .fn (.func g) first caps => some (g, first ++ c.args.toList.map (opdA T) ++ caps)
      | _ => none
    | _ => none
  | _ => none
end Go.Proofs.YtiipaliigpkfhaaGreat.Ab
