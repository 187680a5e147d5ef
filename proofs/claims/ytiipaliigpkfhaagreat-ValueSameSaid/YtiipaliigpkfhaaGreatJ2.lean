/- The closed facts of ValueSame's row. -/
import Derived.Test.YtiipaliigpkfhaaGreatRows
import Derived.JoinedOf
import Derived.KernelRfl
set_option linter.unusedVariables false
set_option maxRecDepth 100000
namespace Go.Proofs.YtiipaliigpkfhaaGreat
open Go
theorem valueSame_facts0 : ((Rows.valueSameRow.wf (OpenSpec.ofChange Rows.valueSameSpec)) && (laidOutB Tryz.prog) && (mapsRowed Tryz.prog) && (Tryz.f7.params.all (Tryz.prog.readableRec ·)) && (namedTie Tryz.prog Rows.valueSameRow.named Rows.valueSameSpec.vars) && ((Rows.valueSameRow.stops == [])) && ((Tryz.prog.stops == [])) && ((Rows.valueSameRow.knobs == [])) && ((Tryz.prog.stopKnobs == []))) = true := by kernel_rfl
theorem valueSame_facts1 : (((Rows.valueSameRow.inPlace == Tryz.prog.inPlace 7)) && ((Rows.valueSameRow.unfollowed == Tryz.prog.unfollowed 7)) && ((Rows.valueSameRow.recurses == Tryz.prog.recurses 7)) && ((Rows.valueSameRow.named == Tryz.prog.varsNamed 7))) = true := by kernel_rfl
theorem valueSame_facts2 : (((Rows.valueSameRow.maps == (Tryz.f7.params.toList ++ Rows.valueSameSpec.plain.varTypes Tryz.prog).any (Tryz.prog.mapsRec ·))) && ((Rows.valueSameRow.ifaces == (Tryz.f7.params.toList ++ Rows.valueSameSpec.plain.varTypes Tryz.prog).any (Tryz.prog.ifacesRec ·))) && ((Rows.valueSameRow.mapsOut == Tryz.prog.mapsAmong Tryz.f7.resultTypes.toList)) && ((Rows.valueSameRow.loops == (Tryz.f7.params.toList ++ Rows.valueSameSpec.plain.varTypes Tryz.prog).any (Tryz.prog.loopsFrom ·))) && ((Rows.valueSameRow.wideKeys == (Tryz.f7.params.toList ++ Rows.valueSameSpec.plain.varTypes Tryz.prog ++ Tryz.f7.resultTypes.toList).any (Tryz.prog.wideKeysFrom ·))) && (Rows.valueSameSpec.vars.all (Tryz.prog.varReadable ·)) && (Tryz.f7.resultTypes.all (fun t => Tryz.prog.readableRec t && decide (t < Tryz.prog.types.size))) && ((Rows.valueSameRow.ifacesOut == Tryz.f7.resultTypes.toList.any (Tryz.prog.ifacesRec ·))) && ((Rows.valueSameRow.loopsOut == Tryz.f7.resultTypes.toList.any (Tryz.prog.loopsFrom ·)))) = true := by kernel_rfl
theorem valueSame_facts3 : (((Rows.valueSameRow.plainKeys == Tryz.prog.plainKeys)) && (Rows.valueSameRow.shortTexts.isNone) && (Tryz.prog.stopsHeard) && (Tryz.prog.mayEnter) && ((Rows.valueSameRow.lifted == Tryz.prog.liftsFinal))) = true := by kernel_rfl
theorem valueSame_facts4 : (((Tryz.prog.make == some Rows.valueSameRow.make)) && ((Rows.valueSameRow.kinds == (if Rows.valueSameRow.domain.isEmpty then [] else Tryz.f7.params.toList.map fun t => match Tryz.prog.underlying t with | some (.int k) => some k | _ => none))) && ((Rows.valueSameRow.pinned == Rows.valueSameRow.pinnedBy)) && ((Rows.valueSameRow.veiled == (Tryz.f7.params.toList ++ Rows.valueSameSpec.plain.varTypes Tryz.prog ++ Tryz.f7.resultTypes.toList).any (Tryz.prog.veiledRec ·))) && (Rows.valueSameRow.veiledFits Tryz.prog Tryz.f7.params.toList (Tryz.f7.params.toList ++ Rows.valueSameSpec.plain.varTypes Tryz.prog ++ Tryz.f7.resultTypes.toList))) = true := by kernel_rfl
theorem valueSame_closed : joinedFacts Tryz.prog 7 Tryz.f7 Rows.valueSameSpec Rows.valueSameRow = true := by
  have h0 := valueSame_facts0
  have h1 := valueSame_facts1
  have h2 := valueSame_facts2
  have h3 := valueSame_facts3
  have h4 := valueSame_facts4
  simp only [Bool.and_eq_true] at h0 h1 h2 h3 h4
  unfold joinedFacts
  simp only [Bool.and_eq_true]
  exact ⟨⟨⟨⟨⟨⟨⟨⟨⟨⟨⟨⟨⟨⟨⟨⟨⟨⟨⟨⟨⟨⟨⟨⟨⟨⟨⟨⟨⟨⟨⟨h0.1.1.1.1.1.1.1.1, h0.1.1.1.1.1.1.1.2⟩, h0.1.1.1.1.1.1.2⟩, h0.1.1.1.1.1.2⟩, h0.1.1.1.1.2⟩, h0.1.1.1.2⟩, h0.1.1.2⟩, h0.1.2⟩, h0.2⟩, h1.1.1.1⟩, h1.1.1.2⟩, h1.1.2⟩, h1.2⟩, h2.1.1.1.1.1.1.1.1⟩, h2.1.1.1.1.1.1.1.2⟩, h2.1.1.1.1.1.1.2⟩, h2.1.1.1.1.1.2⟩, h2.1.1.1.1.2⟩, h2.1.1.1.2⟩, h2.1.1.2⟩, h2.1.2⟩, h2.2⟩, h3.1.1.1.1⟩, h3.1.1.1.2⟩, h3.1.1.2⟩, h3.1.2⟩, h3.2⟩, h4.1.1.1.1⟩, h4.1.1.1.2⟩, h4.1.1.2⟩, h4.1.2⟩, h4.2⟩
end Go.Proofs.YtiipaliigpkfhaaGreat
