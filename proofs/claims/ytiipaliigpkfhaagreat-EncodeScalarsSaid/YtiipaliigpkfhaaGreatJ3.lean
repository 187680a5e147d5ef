/- The closed facts of EncodeScalars' row. -/
import Derived.Test.YtiipaliigpkfhaaGreatRows
import Derived.JoinedOf
import Derived.KernelRfl
set_option linter.unusedVariables false
set_option maxRecDepth 100000
namespace Go.Proofs.YtiipaliigpkfhaaGreat
open Go
theorem encodeScalars_facts0 : ((Rows.encodeScalarsRow.wf (OpenSpec.ofChange Rows.encodeScalarsSpec)) && (laidOutB Tryz.prog) && (mapsRowed Tryz.prog) && (Tryz.f8.params.all (Tryz.prog.readableRec ·)) && (namedTie Tryz.prog Rows.encodeScalarsRow.named Rows.encodeScalarsSpec.vars) && ((Rows.encodeScalarsRow.stops == [])) && ((Tryz.prog.stops == [])) && ((Rows.encodeScalarsRow.knobs == [])) && ((Tryz.prog.stopKnobs == []))) = true := by kernel_rfl
theorem encodeScalars_facts1 : (((Rows.encodeScalarsRow.inPlace == Tryz.prog.inPlace 8)) && ((Rows.encodeScalarsRow.unfollowed == Tryz.prog.unfollowed 8)) && ((Rows.encodeScalarsRow.recurses == Tryz.prog.recurses 8)) && ((Rows.encodeScalarsRow.named == Tryz.prog.varsNamed 8))) = true := by kernel_rfl
theorem encodeScalars_facts2 : (((Rows.encodeScalarsRow.maps == (Tryz.f8.params.toList ++ Rows.encodeScalarsSpec.plain.varTypes Tryz.prog).any (Tryz.prog.mapsRec ·))) && ((Rows.encodeScalarsRow.ifaces == (Tryz.f8.params.toList ++ Rows.encodeScalarsSpec.plain.varTypes Tryz.prog).any (Tryz.prog.ifacesRec ·))) && ((Rows.encodeScalarsRow.mapsOut == Tryz.prog.mapsAmong Tryz.f8.resultTypes.toList)) && ((Rows.encodeScalarsRow.loops == (Tryz.f8.params.toList ++ Rows.encodeScalarsSpec.plain.varTypes Tryz.prog).any (Tryz.prog.loopsFrom ·))) && ((Rows.encodeScalarsRow.wideKeys == (Tryz.f8.params.toList ++ Rows.encodeScalarsSpec.plain.varTypes Tryz.prog ++ Tryz.f8.resultTypes.toList).any (Tryz.prog.wideKeysFrom ·))) && (Rows.encodeScalarsSpec.vars.all (Tryz.prog.varReadable ·)) && (Tryz.f8.resultTypes.all (fun t => Tryz.prog.readableRec t && decide (t < Tryz.prog.types.size))) && ((Rows.encodeScalarsRow.ifacesOut == Tryz.f8.resultTypes.toList.any (Tryz.prog.ifacesRec ·))) && ((Rows.encodeScalarsRow.loopsOut == Tryz.f8.resultTypes.toList.any (Tryz.prog.loopsFrom ·)))) = true := by kernel_rfl
theorem encodeScalars_facts3 : (((Rows.encodeScalarsRow.plainKeys == Tryz.prog.plainKeys)) && (Rows.encodeScalarsRow.shortTexts.isNone) && (Tryz.prog.stopsHeard) && (Tryz.prog.mayEnter) && ((Rows.encodeScalarsRow.lifted == Tryz.prog.liftsFinal))) = true := by kernel_rfl
theorem encodeScalars_facts4 : (((Tryz.prog.make == some Rows.encodeScalarsRow.make)) && ((Rows.encodeScalarsRow.kinds == (if Rows.encodeScalarsRow.domain.isEmpty then [] else Tryz.f8.params.toList.map fun t => match Tryz.prog.underlying t with | some (.int k) => some k | _ => none))) && ((Rows.encodeScalarsRow.pinned == Rows.encodeScalarsRow.pinnedBy)) && ((Rows.encodeScalarsRow.veiled == (Tryz.f8.params.toList ++ Rows.encodeScalarsSpec.plain.varTypes Tryz.prog ++ Tryz.f8.resultTypes.toList).any (Tryz.prog.veiledRec ·))) && (Rows.encodeScalarsRow.veiledFits Tryz.prog Tryz.f8.params.toList (Tryz.f8.params.toList ++ Rows.encodeScalarsSpec.plain.varTypes Tryz.prog ++ Tryz.f8.resultTypes.toList))) = true := by kernel_rfl
theorem encodeScalars_closed : joinedFacts Tryz.prog 8 Tryz.f8 Rows.encodeScalarsSpec Rows.encodeScalarsRow = true := by
  have h0 := encodeScalars_facts0
  have h1 := encodeScalars_facts1
  have h2 := encodeScalars_facts2
  have h3 := encodeScalars_facts3
  have h4 := encodeScalars_facts4
  simp only [Bool.and_eq_true] at h0 h1 h2 h3 h4
  unfold joinedFacts
  simp only [Bool.and_eq_true]
  exact ⟨⟨⟨⟨⟨⟨⟨⟨⟨⟨⟨⟨⟨⟨⟨⟨⟨⟨⟨⟨⟨⟨⟨⟨⟨⟨⟨⟨⟨⟨⟨h0.1.1.1.1.1.1.1.1, h0.1.1.1.1.1.1.1.2⟩, h0.1.1.1.1.1.1.2⟩, h0.1.1.1.1.1.2⟩, h0.1.1.1.1.2⟩, h0.1.1.1.2⟩, h0.1.1.2⟩, h0.1.2⟩, h0.2⟩, h1.1.1.1⟩, h1.1.1.2⟩, h1.1.2⟩, h1.2⟩, h2.1.1.1.1.1.1.1.1⟩, h2.1.1.1.1.1.1.1.2⟩, h2.1.1.1.1.1.1.2⟩, h2.1.1.1.1.1.2⟩, h2.1.1.1.1.2⟩, h2.1.1.1.2⟩, h2.1.1.2⟩, h2.1.2⟩, h2.2⟩, h3.1.1.1.1⟩, h3.1.1.1.2⟩, h3.1.1.2⟩, h3.1.2⟩, h3.2⟩, h4.1.1.1.1⟩, h4.1.1.1.2⟩, h4.1.1.2⟩, h4.1.2⟩, h4.2⟩
end Go.Proofs.YtiipaliigpkfhaaGreat
