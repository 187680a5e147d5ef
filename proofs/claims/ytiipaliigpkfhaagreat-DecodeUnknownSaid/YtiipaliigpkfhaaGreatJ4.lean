/- The closed facts of DecodeUnknown's row. -/
import Derived.Test.YtiipaliigpkfhaaGreatRows
import Derived.JoinedOf
import Derived.KernelRfl
set_option linter.unusedVariables false
set_option maxRecDepth 100000
namespace Go.Proofs.YtiipaliigpkfhaaGreat
open Go
theorem decodeUnknown_facts0 : ((Rows.decodeUnknownRow.wf (OpenSpec.ofChange Rows.decodeUnknownSpec)) && (laidOutB Tryz.prog) && (mapsRowed Tryz.prog) && (Tryz.f13.params.all (Tryz.prog.readableRec ·)) && (namedTie Tryz.prog Rows.decodeUnknownRow.named Rows.decodeUnknownSpec.vars) && ((Rows.decodeUnknownRow.stops == [])) && ((Tryz.prog.stops == [])) && ((Rows.decodeUnknownRow.knobs == [])) && ((Tryz.prog.stopKnobs == []))) = true := by kernel_rfl
theorem decodeUnknown_facts1 : (((Rows.decodeUnknownRow.inPlace == Tryz.prog.inPlace 13)) && ((Rows.decodeUnknownRow.unfollowed == Tryz.prog.unfollowed 13)) && ((Rows.decodeUnknownRow.recurses == Tryz.prog.recurses 13)) && ((Rows.decodeUnknownRow.named == Tryz.prog.varsNamed 13))) = true := by kernel_rfl
theorem decodeUnknown_facts2 : (((Rows.decodeUnknownRow.maps == (Tryz.f13.params.toList ++ Rows.decodeUnknownSpec.plain.varTypes Tryz.prog).any (Tryz.prog.mapsRec ·))) && ((Rows.decodeUnknownRow.ifaces == (Tryz.f13.params.toList ++ Rows.decodeUnknownSpec.plain.varTypes Tryz.prog).any (Tryz.prog.ifacesRec ·))) && ((Rows.decodeUnknownRow.mapsOut == Tryz.prog.mapsAmong Tryz.f13.resultTypes.toList)) && ((Rows.decodeUnknownRow.loops == (Tryz.f13.params.toList ++ Rows.decodeUnknownSpec.plain.varTypes Tryz.prog).any (Tryz.prog.loopsFrom ·))) && ((Rows.decodeUnknownRow.wideKeys == (Tryz.f13.params.toList ++ Rows.decodeUnknownSpec.plain.varTypes Tryz.prog ++ Tryz.f13.resultTypes.toList).any (Tryz.prog.wideKeysFrom ·))) && (Rows.decodeUnknownSpec.vars.all (Tryz.prog.varReadable ·)) && (Tryz.f13.resultTypes.all (fun t => Tryz.prog.readableRec t && decide (t < Tryz.prog.types.size))) && ((Rows.decodeUnknownRow.ifacesOut == Tryz.f13.resultTypes.toList.any (Tryz.prog.ifacesRec ·))) && ((Rows.decodeUnknownRow.loopsOut == Tryz.f13.resultTypes.toList.any (Tryz.prog.loopsFrom ·)))) = true := by kernel_rfl
theorem decodeUnknown_facts3 : (((Rows.decodeUnknownRow.plainKeys == Tryz.prog.plainKeys)) && (Rows.decodeUnknownRow.shortTexts.isNone) && (Tryz.prog.stopsHeard) && (Tryz.prog.mayEnter) && ((Rows.decodeUnknownRow.lifted == Tryz.prog.liftsFinal))) = true := by kernel_rfl
theorem decodeUnknown_facts4 : (((Tryz.prog.make == some Rows.decodeUnknownRow.make)) && ((Rows.decodeUnknownRow.kinds == (if Rows.decodeUnknownRow.domain.isEmpty then [] else Tryz.f13.params.toList.map fun t => match Tryz.prog.underlying t with | some (.int k) => some k | _ => none))) && ((Rows.decodeUnknownRow.pinned == Rows.decodeUnknownRow.pinnedBy)) && ((Rows.decodeUnknownRow.veiled == (Tryz.f13.params.toList ++ Rows.decodeUnknownSpec.plain.varTypes Tryz.prog ++ Tryz.f13.resultTypes.toList).any (Tryz.prog.veiledRec ·))) && (Rows.decodeUnknownRow.veiledFits Tryz.prog Tryz.f13.params.toList (Tryz.f13.params.toList ++ Rows.decodeUnknownSpec.plain.varTypes Tryz.prog ++ Tryz.f13.resultTypes.toList))) = true := by kernel_rfl
theorem decodeUnknown_closed : joinedFacts Tryz.prog 13 Tryz.f13 Rows.decodeUnknownSpec Rows.decodeUnknownRow = true := by
  have h0 := decodeUnknown_facts0
  have h1 := decodeUnknown_facts1
  have h2 := decodeUnknown_facts2
  have h3 := decodeUnknown_facts3
  have h4 := decodeUnknown_facts4
  simp only [Bool.and_eq_true] at h0 h1 h2 h3 h4
  unfold joinedFacts
  simp only [Bool.and_eq_true]
  exact ⟨⟨⟨⟨⟨⟨⟨⟨⟨⟨⟨⟨⟨⟨⟨⟨⟨⟨⟨⟨⟨⟨⟨⟨⟨⟨⟨⟨⟨⟨⟨h0.1.1.1.1.1.1.1.1, h0.1.1.1.1.1.1.1.2⟩, h0.1.1.1.1.1.1.2⟩, h0.1.1.1.1.1.2⟩, h0.1.1.1.1.2⟩, h0.1.1.1.2⟩, h0.1.1.2⟩, h0.1.2⟩, h0.2⟩, h1.1.1.1⟩, h1.1.1.2⟩, h1.1.2⟩, h1.2⟩, h2.1.1.1.1.1.1.1.1⟩, h2.1.1.1.1.1.1.1.2⟩, h2.1.1.1.1.1.1.2⟩, h2.1.1.1.1.1.2⟩, h2.1.1.1.1.2⟩, h2.1.1.1.2⟩, h2.1.1.2⟩, h2.1.2⟩, h2.2⟩, h3.1.1.1.1⟩, h3.1.1.1.2⟩, h3.1.1.2⟩, h3.1.2⟩, h3.2⟩, h4.1.1.1.1⟩, h4.1.1.1.2⟩, h4.1.1.2⟩, h4.1.2⟩, h4.2⟩
end Go.Proofs.YtiipaliigpkfhaaGreat
