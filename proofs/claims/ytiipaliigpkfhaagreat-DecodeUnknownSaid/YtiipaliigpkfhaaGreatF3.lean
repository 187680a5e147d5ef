/- Loops found in code; messages seen field by field. -/
import Derived.Test.YtiipaliigpkfhaaGreatF2
import Derived.Test.YtiipaliigpkfhaaGreatC1
set_option linter.unusedVariables false
set_option linter.unusedSimpArgs false
set_option maxRecDepth 100000
namespace Go.Proofs.YtiipaliigpkfhaaGreat.Ab
open Go Go.RowKit Go.Proofs

/-- The body of the loop whose first row has a number. -/
def loopAt (k : Nat) : Code → Option Code
  | .loop c => if fstReg c = some k then some c else loopAt k c
  | .seq a b => match loopAt k a with
    | some c => some c
    | none => loopAt k b
  | .block _ c => loopAt k c
  | .cond _ a b => match loopAt k a with
    | some c => some c
    | none => loopAt k b
  | _ => none
def loopOf (f : Func) (k : Nat) : Code := ((f.body.bind (loopAt k)).getD .skip)

def Slot.num : Slot → Int | .mk n _ _ => n
def Slot.vnl : Slot → Bool | .mk _ a _ => a
def Slot.vals : Slot → List Val | .mk _ _ v => v
def Val.n : Val → Int | .mk n _ _ _ => n
def Val.bnl : Val → Bool | .mk _ a _ _ => a
def Val.b : Val → List UInt8 | .mk _ _ b _ => b
def Val.m : Val → Msg | .mk _ _ _ m => m
def Msg.snl : Msg → Bool | .mk a _ _ _ => a
def Msg.unl : Msg → Bool | .mk _ _ a _ => a
def m0 : Msg := .mk true [] true []
def v0 : Val := .mk 0 true [] m0
def s0 : Slot := .mk 0 true []

def rowSlots (s : List Slot) : Nat → List AV := fun i => (encSlots s).getD i []
def rowVals (v : List Val) : Nat → List AV := fun i => (encVals v).getD i []
def rowB (l : List UInt8) : Nat → List AV := fun i => (l.map encByte).getD i []
def msgP (m : Msg) : List AV := [.rsl m.snl 2 m.slots.length (rowSlots m.slots) .non, .rsl m.unl 1 m.unknown.length (rowB m.unknown) .non]
def valP (x : Val) : List AV := [.sc (.int .u64 x.n), .rsl x.bnl 1 x.b.length (rowB x.b) .non, .rsl x.m.snl 2 x.m.slots.length (rowSlots x.m.slots) .non, .rsl x.m.unl 1 x.m.unknown.length (rowB x.m.unknown) .non]
def slotP (s : Slot) : List AV := [.sc (.int .i64 s.num), .rsl s.vnl 4 s.vals.length (rowVals s.vals) .non]

theorem encMsg_P (m : Msg) : encMsg m = msgP m := by cases m; rfl
theorem encVal_P (x : Val) : encVal x = valP x := by cases x with | mk n a b m => cases m; rfl
theorem encSlot_P (s : Slot) : encSlot s = slotP s := by cases s; rfl

/-- The rows, seen field by field. -/
def seeSlots (s : List Slot) : Nat → List AV := fun i => slotP (s.getD i s0)
def seeVals (v : List Val) : Nat → List AV := fun i => valP (v.getD i v0)

theorem encSlots_get : ∀ (s : List Slot) (i : Nat), i < s.length → (encSlots s).getD i [] = encSlot (s.getD i s0)
  | [], i, h => by simp at h
  | a :: r, 0, _ => rfl
  | a :: r, i + 1, h => by
    have := encSlots_get r i (by simpa using h)
    simpa [encSlots] using this
theorem encVals_get : ∀ (s : List Val) (i : Nat), i < s.length → (encVals s).getD i [] = encVal (s.getD i v0)
  | [], i, h => by simp at h
  | a :: r, 0, _ => rfl
  | a :: r, i + 1, h => by
    have := encVals_get r i (by simpa using h)
    simpa [encVals] using this

theorem see_slots (s : List Slot) (i : Nat) (h : i < s.length) : rowSlots s i = seeSlots s i := by unfold rowSlots seeSlots; rw [encSlots_get s i h, encSlot_P]
theorem see_vals (s : List Val) (i : Nat) (h : i < s.length) : rowVals s i = seeVals s i := by unfold rowVals seeVals; rw [encVals_get s i h, encVal_P]

noncomputable def orc45 : OrcT := fun g args H => if g = 45 then some (knownT Tryz.prog (.int .i64) 45 args H) else none
theorem orc45_ok : OrcOk Tryz.prog orc45 := by
  intro g args H t r h hr
  unfold orc45 at h
  split at h
  · rename_i hg; cases h; subst hg; exact knownT_ok hr
  · cases h
end Go.Proofs.YtiipaliigpkfhaaGreat.Ab
