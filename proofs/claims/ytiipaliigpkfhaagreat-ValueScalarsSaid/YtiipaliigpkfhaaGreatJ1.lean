/- The closed facts of ValueScalars' row. -/
import Derived.Test.YtiipaliigpkfhaaGreatRows
import Derived.JoinedOf
import Derived.KernelRfl
set_option linter.unusedVariables false
set_option maxRecDepth 100000
namespace Go.Proofs.YtiipaliigpkfhaaGreat
open Go
theorem valueScalars_facts0 : ((Rows.valueScalarsRow.wf (OpenSpec.ofChange Rows.valueScalarsSpec)) && (laidOutB Tryz.prog) && (mapsRowed Tryz.prog) && (Tryz.f3.params.all (Tryz.prog.readableRec ·)) && (namedTie Tryz.prog Rows.valueScalarsRow.named Rows.valueScalarsSpec.vars) && ((Rows.valueScalarsRow.stops == [])) && ((Tryz.prog.stops == [])) && ((Rows.valueScalarsRow.knobs == [])) && ((Tryz.prog.stopKnobs == []))) = true := by kernel_rfl
theorem valueScalars_facts1 : (((Rows.valueScalarsRow.inPlace == Tryz.prog.inPlace 3)) && ((Rows.valueScalarsRow.unfollowed == Tryz.prog.unfollowed 3)) && ((Rows.valueScalarsRow.recurses == Tryz.prog.recurses 3)) && ((Rows.valueScalarsRow.named == Tryz.prog.varsNamed 3))) = true := by kernel_rfl
theorem valueScalars_facts2 : (((Rows.valueScalarsRow.maps == (Tryz.f3.params.toList ++ Rows.valueScalarsSpec.plain.varTypes Tryz.prog).any (Tryz.prog.mapsRec ·))) && ((Rows.valueScalarsRow.ifaces == (Tryz.f3.params.toList ++ Rows.valueScalarsSpec.plain.varTypes Tryz.prog).any (Tryz.prog.ifacesRec ·))) && ((Rows.valueScalarsRow.mapsOut == Tryz.prog.mapsAmong Tryz.f3.resultTypes.toList)) && ((Rows.valueScalarsRow.loops == (Tryz.f3.params.toList ++ Rows.valueScalarsSpec.plain.varTypes Tryz.prog).any (Tryz.prog.loopsFrom ·))) && ((Rows.valueScalarsRow.wideKeys == (Tryz.f3.params.toList ++ Rows.valueScalarsSpec.plain.varTypes Tryz.prog ++ Tryz.f3.resultTypes.toList).any (Tryz.prog.wideKeysFrom ·))) && (Rows.valueScalarsSpec.vars.all (Tryz.prog.varReadable ·)) && (Tryz.f3.resultTypes.all (fun t => Tryz.prog.readableRec t && decide (t < Tryz.prog.types.size))) && ((Rows.valueScalarsRow.ifacesOut == Tryz.f3.resultTypes.toList.any (Tryz.prog.ifacesRec ·))) && ((Rows.valueScalarsRow.loopsOut == Tryz.f3.resultTypes.toList.any (Tryz.prog.loopsFrom ·)))) = true := by kernel_rfl
theorem valueScalars_facts3 : (((Rows.valueScalarsRow.plainKeys == Tryz.prog.plainKeys)) && (Rows.valueScalarsRow.shortTexts.isNone) && (Tryz.prog.stopsHeard) && (Tryz.prog.mayEnter) && ((Rows.valueScalarsRow.lifted == Tryz.prog.liftsFinal))) = true := by kernel_rfl
theorem valueScalars_facts4 : (((Tryz.prog.make == some Rows.valueScalarsRow.make)) && ((Rows.valueScalarsRow.kinds == (if Rows.valueScalarsRow.domain.isEmpty then [] else Tryz.f3.params.toList.map fun t => match Tryz.prog.underlying t with | some (.int k) => some k | _ => none))) && ((Rows.valueScalarsRow.pinned == Rows.valueScalarsRow.pinnedBy)) && ((Rows.valueScalarsRow.veiled == (Tryz.f3.params.toList ++ Rows.valueScalarsSpec.plain.varTypes Tryz.prog ++ Tryz.f3.resultTypes.toList).any (Tryz.prog.veiledRec ·))) && (Rows.valueScalarsRow.veiledFits Tryz.prog Tryz.f3.params.toList (Tryz.f3.params.toList ++ Rows.valueScalarsSpec.plain.varTypes Tryz.prog ++ Tryz.f3.resultTypes.toList))) = true := by kernel_rfl
theorem valueScalars_closed : joinedFacts Tryz.prog 3 Tryz.f3 Rows.valueScalarsSpec Rows.valueScalarsRow = true := by
  have h0 := valueScalars_facts0
  have h1 := valueScalars_facts1
  have h2 := valueScalars_facts2
  have h3 := valueScalars_facts3
  have h4 := valueScalars_facts4
  simp only [Bool.and_eq_true] at h0 h1 h2 h3 h4
  unfold joinedFacts
  simp only [Bool.and_eq_true]
  exact ⟨⟨⟨⟨⟨⟨⟨⟨⟨⟨⟨⟨⟨⟨⟨⟨⟨⟨⟨⟨⟨⟨⟨⟨⟨⟨⟨⟨⟨⟨⟨h0.1.1.1.1.1.1.1.1, h0.1.1.1.1.1.1.1.2⟩, h0.1.1.1.1.1.1.2⟩, h0.1.1.1.1.1.2⟩, h0.1.1.1.1.2⟩, h0.1.1.1.2⟩, h0.1.1.2⟩, h0.1.2⟩, h0.2⟩, h1.1.1.1⟩, h1.1.1.2⟩, h1.1.2⟩, h1.2⟩, h2.1.1.1.1.1.1.1.1⟩, h2.1.1.1.1.1.1.1.2⟩, h2.1.1.1.1.1.1.2⟩, h2.1.1.1.1.1.2⟩, h2.1.1.1.1.2⟩, h2.1.1.1.2⟩, h2.1.1.2⟩, h2.1.2⟩, h2.2⟩, h3.1.1.1.1⟩, h3.1.1.1.2⟩, h3.1.1.2⟩, h3.1.2⟩, h3.2⟩, h4.1.1.1.1⟩, h4.1.1.1.2⟩, h4.1.1.2⟩, h4.1.2⟩, h4.2⟩
end Go.Proofs.YtiipaliigpkfhaaGreat
