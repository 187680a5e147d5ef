/- Data: messages. -/
import Derived.Test.YtiipaliigpkfhaaGreatC0
set_option linter.unusedVariables false
namespace Go.Proofs.YtiipaliigpkfhaaGreat.Ab
open Go Go.RowKit Go.Proofs

mutual
inductive Msg where
  | mk (snl : Bool) (slots : List Slot) (unl : Bool) (unknown : List UInt8)
inductive Slot where
  | mk (num : Int) (vnl : Bool) (vals : List Val)
inductive Val where
  | mk (n : Int) (bnl : Bool) (b : List UInt8) (m : Msg)
end

def encByte (b : UInt8) : List AV := [.sc (.int .u8 (b.toNat : Int))]
def encB (nl : Bool) (l : List UInt8) : AV := .rsl nl 1 l.length (fun i => (l.map encByte).getD i []) .non

mutual
def encMsg : Msg → List AV
  | .mk a s b u => [.rsl a 2 s.length (fun i => (encSlots s).getD i []) .non, encB b u]
def encSlots : List Slot → List (List AV)
  | [] => []
  | s :: r => encSlot s :: encSlots r
def encSlot : Slot → List AV
  | .mk n a v => [.sc (.int .i64 n), .rsl a 4 v.length (fun i => (encVals v).getD i []) .non]
def encVals : List Val → List (List AV)
  | [] => []
  | v :: r => encVal v :: encVals r
def encVal : Val → List AV
  | .mk n a b m => [.sc (.int .u64 n), encB a b] ++ encMsg m
end

def Msg.slots : Msg → List Slot | .mk _ s _ _ => s
def Msg.unknown : Msg → List UInt8 | .mk _ _ _ u => u
def bareF (m : Msg) : Bool := m.slots.isEmpty && m.unknown.isEmpty

end Go.Proofs.YtiipaliigpkfhaaGreat.Ab
