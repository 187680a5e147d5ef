/-
  NARROWER THAN 'FOR EVERY INPUT', by the rows' own cells (each row's printed sentence says how): ValueScalars: loops · ValueOwn: loops · ValueFields: loops · ValuePacked: loops · ValueSame: loops · EncodeScalars: loops · EncodeOnce: loops · EncodeParts: loops · DecodeBack: loops · DecodeFits: loops.
  DERIVED. THE GIVEN ROWS OF THIS SEAT. 11 by the template 'for every input the law returns true; each argument reads behind the call as it read before'; 0 by the template 'total and deterministic' (their statements: YtiipaliigpkfhaaGreatTotals.lean).
  GIVEN WITH THE SEED: the statements are not yours to turn. If you find one false, say at which input.
  Laid BY PROGRAM, IN A SANDBOX (cutbox-rows.mjs): the forced cells as the released guide's own fill.sh prints them over the translation eeac3d5f57e435d5… (all of the seat's roots in one cut). By AI agents, Wed Nov 11 2026. No macro, syntax, notation, axiom, sorry.
-/
import Derived.Test.YtiipaliigpkfhaaGreatChecked
import GoSem.Claim
import GoSem.ClaimJoined
import GoSem.ClaimMapViews
import Derived.JoinedTies
import Derived.KernelRfl
namespace Go.Proofs.YtiipaliigpkfhaaGreat
/- THE CELL 'sum', in the pinned program and in every row, IS THE sha256 OF THE DUMP (.gsa) THAT YtiipaliigpkfhaaGreatProg.lean LOADS. Nothing in Lean hashes anything: it is a label: what it is worth is what the hold of that sum in a sandbox is worth. -/
noncomputable def Tryz.pinned : Pinned := { name := "ytiipaliigpkfhaagreat", sum := "eeac3d5f57e435d5250e6d4da2e5ebf5ba307d4336c6682a9b132ac932c18807", checked := Tryz.checked }
namespace Rows
def none {H : Type} : Left H := { results := [], args := [] }

/-- 'glossarylaw17.ValueScalars': WHATEVER THE INPUT: true; the input reads as it did. -/
def valueScalarsSpec : ChangeSpec := { name := "valueScalars", fn := fun _ => fun
  | [d1, d2] => { results := [.lit (.bool true)], args := [d1, d2] }
  | _ => none }
def valueScalarsRow : OpenClaim := { program := "ytiipaliigpkfhaagreat", sum := "eeac3d5f57e435d5250e6d4da2e5ebf5ba307d4336c6682a9b132ac932c18807", func := "glossary/glossarylaw17.ValueScalars", spec := "valueScalars", unfollowed := true, recurses := true, loops := true, plainKeys := false, apart := false }
def ValueScalarsSaid : Prop := valueScalarsRow.holds Tryz.pinned (OpenSpec.ofChange valueScalarsSpec)

/-- ITS FALSE NEIGHBOUR: 'it returns false'. Refute it at one input. -/
def valueScalarsWrong : ChangeSpec := { name := "valueScalars", fn := fun _ => fun
  | [d1, d2] => { results := [.lit (.bool false)], args := [d1, d2] }
  | _ => none }
def ValueScalarsWrongFalsely : Prop := valueScalarsRow.holds Tryz.pinned (OpenSpec.ofChange valueScalarsWrong)

/-- 'glossarylaw17.ValueOwn': WHATEVER THE INPUT: true; the input reads as it did. -/
def valueOwnSpec : ChangeSpec := { name := "valueOwn", fn := fun _ => fun
  | [d1, d2, d3] => { results := [.lit (.bool true)], args := [d1, d2, d3] }
  | _ => none }
def valueOwnRow : OpenClaim := { program := "ytiipaliigpkfhaagreat", sum := "eeac3d5f57e435d5250e6d4da2e5ebf5ba307d4336c6682a9b132ac932c18807", func := "glossary/glossarylaw17.ValueOwn", spec := "valueOwn", unfollowed := true, recurses := true, loops := true, plainKeys := false, apart := false }
def ValueOwnSaid : Prop := valueOwnRow.holds Tryz.pinned (OpenSpec.ofChange valueOwnSpec)

/-- ITS FALSE NEIGHBOUR: 'it returns false'. Refute it at one input. -/
def valueOwnWrong : ChangeSpec := { name := "valueOwn", fn := fun _ => fun
  | [d1, d2, d3] => { results := [.lit (.bool false)], args := [d1, d2, d3] }
  | _ => none }
def ValueOwnWrongFalsely : Prop := valueOwnRow.holds Tryz.pinned (OpenSpec.ofChange valueOwnWrong)

/-- 'glossarylaw17.ValueFields': WHATEVER THE INPUT: true; the input reads as it did. -/
def valueFieldsSpec : ChangeSpec := { name := "valueFields", fn := fun _ => fun
  | [d1, d2] => { results := [.lit (.bool true)], args := [d1, d2] }
  | _ => none }
def valueFieldsRow : OpenClaim := { program := "ytiipaliigpkfhaagreat", sum := "eeac3d5f57e435d5250e6d4da2e5ebf5ba307d4336c6682a9b132ac932c18807", func := "glossary/glossarylaw17.ValueFields", spec := "valueFields", unfollowed := true, recurses := true, loops := true, plainKeys := false, apart := false }
def ValueFieldsSaid : Prop := valueFieldsRow.holds Tryz.pinned (OpenSpec.ofChange valueFieldsSpec)

/-- ITS FALSE NEIGHBOUR: 'it returns false'. Refute it at one input. -/
def valueFieldsWrong : ChangeSpec := { name := "valueFields", fn := fun _ => fun
  | [d1, d2] => { results := [.lit (.bool false)], args := [d1, d2] }
  | _ => none }
def ValueFieldsWrongFalsely : Prop := valueFieldsRow.holds Tryz.pinned (OpenSpec.ofChange valueFieldsWrong)

/-- 'glossarylaw17.ValuePacked': WHATEVER THE INPUT: true; the input reads as it did. -/
def valuePackedSpec : ChangeSpec := { name := "valuePacked", fn := fun _ => fun
  | [d1, d2, d3] => { results := [.lit (.bool true)], args := [d1, d2, d3] }
  | _ => none }
def valuePackedRow : OpenClaim := { program := "ytiipaliigpkfhaagreat", sum := "eeac3d5f57e435d5250e6d4da2e5ebf5ba307d4336c6682a9b132ac932c18807", func := "glossary/glossarylaw17.ValuePacked", spec := "valuePacked", unfollowed := true, recurses := true, loops := true, plainKeys := false, apart := false }
def ValuePackedSaid : Prop := valuePackedRow.holds Tryz.pinned (OpenSpec.ofChange valuePackedSpec)

/-- ITS FALSE NEIGHBOUR: 'it returns false'. Refute it at one input. -/
def valuePackedWrong : ChangeSpec := { name := "valuePacked", fn := fun _ => fun
  | [d1, d2, d3] => { results := [.lit (.bool false)], args := [d1, d2, d3] }
  | _ => none }
def ValuePackedWrongFalsely : Prop := valuePackedRow.holds Tryz.pinned (OpenSpec.ofChange valuePackedWrong)

/-- 'glossarylaw17.ValueSame': WHATEVER THE INPUT: true; the input reads as it did. -/
def valueSameSpec : ChangeSpec := { name := "valueSame", fn := fun _ => fun
  | [d1, d2] => { results := [.lit (.bool true)], args := [d1, d2] }
  | _ => none }
def valueSameRow : OpenClaim := { program := "ytiipaliigpkfhaagreat", sum := "eeac3d5f57e435d5250e6d4da2e5ebf5ba307d4336c6682a9b132ac932c18807", func := "glossary/glossarylaw17.ValueSame", spec := "valueSame", unfollowed := true, recurses := true, loops := true, plainKeys := false, apart := false }
def ValueSameSaid : Prop := valueSameRow.holds Tryz.pinned (OpenSpec.ofChange valueSameSpec)

/-- ITS FALSE NEIGHBOUR: 'it returns false'. Refute it at one input. -/
def valueSameWrong : ChangeSpec := { name := "valueSame", fn := fun _ => fun
  | [d1, d2] => { results := [.lit (.bool false)], args := [d1, d2] }
  | _ => none }
def ValueSameWrongFalsely : Prop := valueSameRow.holds Tryz.pinned (OpenSpec.ofChange valueSameWrong)

/-- 'glossarylaw18.EncodeScalars': WHATEVER THE INPUT: true; the input reads as it did. -/
def encodeScalarsSpec : ChangeSpec := { name := "encodeScalars", fn := fun _ => fun
  | [d1, d2] => { results := [.lit (.bool true)], args := [d1, d2] }
  | _ => none }
def encodeScalarsRow : OpenClaim := { program := "ytiipaliigpkfhaagreat", sum := "eeac3d5f57e435d5250e6d4da2e5ebf5ba307d4336c6682a9b132ac932c18807", func := "glossary/glossarylaw18.EncodeScalars", spec := "encodeScalars", unfollowed := true, recurses := true, loops := true, plainKeys := false, apart := false }
def EncodeScalarsSaid : Prop := encodeScalarsRow.holds Tryz.pinned (OpenSpec.ofChange encodeScalarsSpec)

/-- ITS FALSE NEIGHBOUR: 'it returns false'. Refute it at one input. -/
def encodeScalarsWrong : ChangeSpec := { name := "encodeScalars", fn := fun _ => fun
  | [d1, d2] => { results := [.lit (.bool false)], args := [d1, d2] }
  | _ => none }
def EncodeScalarsWrongFalsely : Prop := encodeScalarsRow.holds Tryz.pinned (OpenSpec.ofChange encodeScalarsWrong)

/-- 'glossarylaw18.EncodeOnce': WHATEVER THE INPUT: true; the input reads as it did. -/
def encodeOnceSpec : ChangeSpec := { name := "encodeOnce", fn := fun _ => fun
  | [d1, d2, d3, d4] => { results := [.lit (.bool true)], args := [d1, d2, d3, d4] }
  | _ => none }
def encodeOnceRow : OpenClaim := { program := "ytiipaliigpkfhaagreat", sum := "eeac3d5f57e435d5250e6d4da2e5ebf5ba307d4336c6682a9b132ac932c18807", func := "glossary/glossarylaw18.EncodeOnce", spec := "encodeOnce", unfollowed := true, recurses := true, loops := true, plainKeys := false, apart := false }
def EncodeOnceSaid : Prop := encodeOnceRow.holds Tryz.pinned (OpenSpec.ofChange encodeOnceSpec)

/-- ITS FALSE NEIGHBOUR: 'it returns false'. Refute it at one input. -/
def encodeOnceWrong : ChangeSpec := { name := "encodeOnce", fn := fun _ => fun
  | [d1, d2, d3, d4] => { results := [.lit (.bool false)], args := [d1, d2, d3, d4] }
  | _ => none }
def EncodeOnceWrongFalsely : Prop := encodeOnceRow.holds Tryz.pinned (OpenSpec.ofChange encodeOnceWrong)

/-- 'glossarylaw18.EncodeParts': WHATEVER THE INPUT: true; the input reads as it did. -/
def encodePartsSpec : ChangeSpec := { name := "encodeParts", fn := fun _ => fun
  | [d1, d2, d3] => { results := [.lit (.bool true)], args := [d1, d2, d3] }
  | _ => none }
def encodePartsRow : OpenClaim := { program := "ytiipaliigpkfhaagreat", sum := "eeac3d5f57e435d5250e6d4da2e5ebf5ba307d4336c6682a9b132ac932c18807", func := "glossary/glossarylaw18.EncodeParts", spec := "encodeParts", unfollowed := true, recurses := true, loops := true, plainKeys := false, apart := false }
def EncodePartsSaid : Prop := encodePartsRow.holds Tryz.pinned (OpenSpec.ofChange encodePartsSpec)

/-- ITS FALSE NEIGHBOUR: 'it returns false'. Refute it at one input. -/
def encodePartsWrong : ChangeSpec := { name := "encodeParts", fn := fun _ => fun
  | [d1, d2, d3] => { results := [.lit (.bool false)], args := [d1, d2, d3] }
  | _ => none }
def EncodePartsWrongFalsely : Prop := encodePartsRow.holds Tryz.pinned (OpenSpec.ofChange encodePartsWrong)

/-- 'glossarylaw19.DecodeBack': WHATEVER THE INPUT: true; the input reads as it did. -/
def decodeBackSpec : ChangeSpec := { name := "decodeBack", fn := fun _ => fun
  | [d1, d2, d3] => { results := [.lit (.bool true)], args := [d1, d2, d3] }
  | _ => none }
def decodeBackRow : OpenClaim := { program := "ytiipaliigpkfhaagreat", sum := "eeac3d5f57e435d5250e6d4da2e5ebf5ba307d4336c6682a9b132ac932c18807", func := "glossary/glossarylaw19.DecodeBack", spec := "decodeBack", inPlace := ["slices.overlaps[glossary/api.Slot]"], unfollowed := true, recurses := true, loops := true, plainKeys := false, apart := false }
def DecodeBackSaid : Prop := decodeBackRow.holds Tryz.pinned (OpenSpec.ofChange decodeBackSpec)

/-- ITS FALSE NEIGHBOUR: 'it returns false'. Refute it at one input. -/
def decodeBackWrong : ChangeSpec := { name := "decodeBack", fn := fun _ => fun
  | [d1, d2, d3] => { results := [.lit (.bool false)], args := [d1, d2, d3] }
  | _ => none }
def DecodeBackWrongFalsely : Prop := decodeBackRow.holds Tryz.pinned (OpenSpec.ofChange decodeBackWrong)

/-- 'glossarylaw19.DecodeFits': WHATEVER THE INPUT: true; the input reads as it did. -/
def decodeFitsSpec : ChangeSpec := { name := "decodeFits", fn := fun _ => fun
  | [d1, d2, d3] => { results := [.lit (.bool true)], args := [d1, d2, d3] }
  | _ => none }
def decodeFitsRow : OpenClaim := { program := "ytiipaliigpkfhaagreat", sum := "eeac3d5f57e435d5250e6d4da2e5ebf5ba307d4336c6682a9b132ac932c18807", func := "glossary/glossarylaw19.DecodeFits", spec := "decodeFits", inPlace := ["slices.overlaps[glossary/api.Slot]"], unfollowed := true, recurses := true, loops := true, plainKeys := false, apart := false }
def DecodeFitsSaid : Prop := decodeFitsRow.holds Tryz.pinned (OpenSpec.ofChange decodeFitsSpec)

/-- ITS FALSE NEIGHBOUR: 'it returns false'. Refute it at one input. -/
def decodeFitsWrong : ChangeSpec := { name := "decodeFits", fn := fun _ => fun
  | [d1, d2, d3] => { results := [.lit (.bool false)], args := [d1, d2, d3] }
  | _ => none }
def DecodeFitsWrongFalsely : Prop := decodeFitsRow.holds Tryz.pinned (OpenSpec.ofChange decodeFitsWrong)

/-- 'glossarylaw19.DecodeUnknown': WHATEVER THE INPUT: true; the input reads as it did. -/
def decodeUnknownSpec : ChangeSpec := { name := "decodeUnknown", fn := fun _ => fun
  | [d1, d2] => { results := [.lit (.bool true)], args := [d1, d2] }
  | _ => none }
def decodeUnknownRow : OpenClaim := { program := "ytiipaliigpkfhaagreat", sum := "eeac3d5f57e435d5250e6d4da2e5ebf5ba307d4336c6682a9b132ac932c18807", func := "glossary/glossarylaw19.DecodeUnknown", spec := "decodeUnknown", inPlace := ["slices.overlaps[glossary/api.Slot]"], unfollowed := true, recurses := true, plainKeys := false, apart := false }
def DecodeUnknownSaid : Prop := decodeUnknownRow.holds Tryz.pinned (OpenSpec.ofChange decodeUnknownSpec)

/-- ITS FALSE NEIGHBOUR: 'it returns false'. Refute it at one input. -/
def decodeUnknownWrong : ChangeSpec := { name := "decodeUnknown", fn := fun _ => fun
  | [d1, d2] => { results := [.lit (.bool false)], args := [d1, d2] }
  | _ => none }
def DecodeUnknownWrongFalsely : Prop := decodeUnknownRow.holds Tryz.pinned (OpenSpec.ofChange decodeUnknownWrong)

/- THE SECOND FORM. 'bulk': how many values and letters a reading holds, each counted each time it is reached (what is shared counts as often as it is met; a slice's spare places count too). A statement '..UptoSaid' is the law's where the arguments, and the package variables that the reading takes, are together of bulk at most 1048576: NARROWER than '..Said'. Prove '..Said' where nothing that the law and all that it calls make is longer than what came in: it says more and counts as full. Else prove '..UptoSaid'. A law counts once. -/
mutual
def uptoBulk {H : Type} : DataW H → Nat
  | .lit (.string bytes) => bytes.length + 1
  | .lit _ => 1
  | .nil => 1
  | .ptr d => uptoBulk d + 1
  | .slice elems spare => uptoBulkAll elems + uptoBulkAll spare + 1
  | .agg parts => uptoBulkAll parts + 1
  | .iface _ d => uptoBulk d + 1
  | .map entries => uptoBulkEntries entries + 1
  | .held _ => 1
def uptoBulkAll {H : Type} : List (DataW H) → Nat
  | [] => 0
  | d :: r => uptoBulk d + uptoBulkAll r
def uptoBulkEntries {H : Type} : List (Lit × DataW H) → Nat
  | [] => 0
  | x :: r => uptoBulkEntry x + uptoBulkEntries r
def uptoBulkEntry {H : Type} : Lit × DataW H → Nat
  | (.string bytes, d) => bytes.length + uptoBulk d + 1
  | (_, d) => uptoBulk d + 1
 end
def uptoSmall : (H : Type) → List (DataW H) → Bool := fun _ ds => decide (uptoBulkAll ds ≤ 1048576)
def OpenSpec.upto (s : _root_.Go.ChangeSpec) : _root_.Go.OpenSpec := { _root_.Go.OpenSpec.ofChange s with cond := some uptoSmall }

/-- 'glossarylaw17.ValueScalars', WHERE WHAT IT READS IS OF BULK AT MOST 1048576: true; the input reads as it did. -/
def valueScalarsUptoRow : OpenClaim := { program := "ytiipaliigpkfhaagreat", sum := "eeac3d5f57e435d5250e6d4da2e5ebf5ba307d4336c6682a9b132ac932c18807", func := "glossary/glossarylaw17.ValueScalars", spec := "valueScalars", unfollowed := true, recurses := true, loops := true, plainKeys := false, apart := false, narrowed := true }
def ValueScalarsUptoSaid : Prop := valueScalarsUptoRow.holds Tryz.pinned (OpenSpec.upto valueScalarsSpec)

/-- 'glossarylaw17.ValueOwn', WHERE WHAT IT READS IS OF BULK AT MOST 1048576: true; the input reads as it did. -/
def valueOwnUptoRow : OpenClaim := { program := "ytiipaliigpkfhaagreat", sum := "eeac3d5f57e435d5250e6d4da2e5ebf5ba307d4336c6682a9b132ac932c18807", func := "glossary/glossarylaw17.ValueOwn", spec := "valueOwn", unfollowed := true, recurses := true, loops := true, plainKeys := false, apart := false, narrowed := true }
def ValueOwnUptoSaid : Prop := valueOwnUptoRow.holds Tryz.pinned (OpenSpec.upto valueOwnSpec)

/-- 'glossarylaw17.ValueFields', WHERE WHAT IT READS IS OF BULK AT MOST 1048576: true; the input reads as it did. -/
def valueFieldsUptoRow : OpenClaim := { program := "ytiipaliigpkfhaagreat", sum := "eeac3d5f57e435d5250e6d4da2e5ebf5ba307d4336c6682a9b132ac932c18807", func := "glossary/glossarylaw17.ValueFields", spec := "valueFields", unfollowed := true, recurses := true, loops := true, plainKeys := false, apart := false, narrowed := true }
def ValueFieldsUptoSaid : Prop := valueFieldsUptoRow.holds Tryz.pinned (OpenSpec.upto valueFieldsSpec)

/-- 'glossarylaw17.ValuePacked', WHERE WHAT IT READS IS OF BULK AT MOST 1048576: true; the input reads as it did. -/
def valuePackedUptoRow : OpenClaim := { program := "ytiipaliigpkfhaagreat", sum := "eeac3d5f57e435d5250e6d4da2e5ebf5ba307d4336c6682a9b132ac932c18807", func := "glossary/glossarylaw17.ValuePacked", spec := "valuePacked", unfollowed := true, recurses := true, loops := true, plainKeys := false, apart := false, narrowed := true }
def ValuePackedUptoSaid : Prop := valuePackedUptoRow.holds Tryz.pinned (OpenSpec.upto valuePackedSpec)

/-- 'glossarylaw17.ValueSame', WHERE WHAT IT READS IS OF BULK AT MOST 1048576: true; the input reads as it did. -/
def valueSameUptoRow : OpenClaim := { program := "ytiipaliigpkfhaagreat", sum := "eeac3d5f57e435d5250e6d4da2e5ebf5ba307d4336c6682a9b132ac932c18807", func := "glossary/glossarylaw17.ValueSame", spec := "valueSame", unfollowed := true, recurses := true, loops := true, plainKeys := false, apart := false, narrowed := true }
def ValueSameUptoSaid : Prop := valueSameUptoRow.holds Tryz.pinned (OpenSpec.upto valueSameSpec)

/-- 'glossarylaw18.EncodeScalars', WHERE WHAT IT READS IS OF BULK AT MOST 1048576: true; the input reads as it did. -/
def encodeScalarsUptoRow : OpenClaim := { program := "ytiipaliigpkfhaagreat", sum := "eeac3d5f57e435d5250e6d4da2e5ebf5ba307d4336c6682a9b132ac932c18807", func := "glossary/glossarylaw18.EncodeScalars", spec := "encodeScalars", unfollowed := true, recurses := true, loops := true, plainKeys := false, apart := false, narrowed := true }
def EncodeScalarsUptoSaid : Prop := encodeScalarsUptoRow.holds Tryz.pinned (OpenSpec.upto encodeScalarsSpec)

/-- 'glossarylaw18.EncodeOnce', WHERE WHAT IT READS IS OF BULK AT MOST 1048576: true; the input reads as it did. -/
def encodeOnceUptoRow : OpenClaim := { program := "ytiipaliigpkfhaagreat", sum := "eeac3d5f57e435d5250e6d4da2e5ebf5ba307d4336c6682a9b132ac932c18807", func := "glossary/glossarylaw18.EncodeOnce", spec := "encodeOnce", unfollowed := true, recurses := true, loops := true, plainKeys := false, apart := false, narrowed := true }
def EncodeOnceUptoSaid : Prop := encodeOnceUptoRow.holds Tryz.pinned (OpenSpec.upto encodeOnceSpec)

/-- 'glossarylaw18.EncodeParts', WHERE WHAT IT READS IS OF BULK AT MOST 1048576: true; the input reads as it did. -/
def encodePartsUptoRow : OpenClaim := { program := "ytiipaliigpkfhaagreat", sum := "eeac3d5f57e435d5250e6d4da2e5ebf5ba307d4336c6682a9b132ac932c18807", func := "glossary/glossarylaw18.EncodeParts", spec := "encodeParts", unfollowed := true, recurses := true, loops := true, plainKeys := false, apart := false, narrowed := true }
def EncodePartsUptoSaid : Prop := encodePartsUptoRow.holds Tryz.pinned (OpenSpec.upto encodePartsSpec)

/-- 'glossarylaw19.DecodeBack', WHERE WHAT IT READS IS OF BULK AT MOST 1048576: true; the input reads as it did. -/
def decodeBackUptoRow : OpenClaim := { program := "ytiipaliigpkfhaagreat", sum := "eeac3d5f57e435d5250e6d4da2e5ebf5ba307d4336c6682a9b132ac932c18807", func := "glossary/glossarylaw19.DecodeBack", spec := "decodeBack", inPlace := ["slices.overlaps[glossary/api.Slot]"], unfollowed := true, recurses := true, loops := true, plainKeys := false, apart := false, narrowed := true }
def DecodeBackUptoSaid : Prop := decodeBackUptoRow.holds Tryz.pinned (OpenSpec.upto decodeBackSpec)

/-- 'glossarylaw19.DecodeFits', WHERE WHAT IT READS IS OF BULK AT MOST 1048576: true; the input reads as it did. -/
def decodeFitsUptoRow : OpenClaim := { program := "ytiipaliigpkfhaagreat", sum := "eeac3d5f57e435d5250e6d4da2e5ebf5ba307d4336c6682a9b132ac932c18807", func := "glossary/glossarylaw19.DecodeFits", spec := "decodeFits", inPlace := ["slices.overlaps[glossary/api.Slot]"], unfollowed := true, recurses := true, loops := true, plainKeys := false, apart := false, narrowed := true }
def DecodeFitsUptoSaid : Prop := decodeFitsUptoRow.holds Tryz.pinned (OpenSpec.upto decodeFitsSpec)

/-- 'glossarylaw19.DecodeUnknown', WHERE WHAT IT READS IS OF BULK AT MOST 1048576: true; the input reads as it did. -/
def decodeUnknownUptoRow : OpenClaim := { program := "ytiipaliigpkfhaagreat", sum := "eeac3d5f57e435d5250e6d4da2e5ebf5ba307d4336c6682a9b132ac932c18807", func := "glossary/glossarylaw19.DecodeUnknown", spec := "decodeUnknown", inPlace := ["slices.overlaps[glossary/api.Slot]"], unfollowed := true, recurses := true, plainKeys := false, apart := false, narrowed := true }
def DecodeUnknownUptoSaid : Prop := decodeUnknownUptoRow.holds Tryz.pinned (OpenSpec.upto decodeUnknownSpec)

end Rows
end Go.Proofs.YtiipaliigpkfhaaGreat
