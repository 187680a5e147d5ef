/- A row of two messages from a contract. -/
import Derived.Test.YtiipaliigpkfhaaGreatE1
import Derived.Test.YtiipaliigpkfhaaGreatRows
set_option linter.unusedVariables false
set_option maxRecDepth 100000
namespace Go.Proofs.YtiipaliigpkfhaaGreat
open Go.ChangeShapes Go.WideShapes Go.ChangeAt Go.RowKit Ab

theorem own7 : ownKnob Tryz.prog.godebug = none := by kernel_rfl
theorem laid7 : laidOutB Tryz.prog = true := by kernel_rfl

theorem valueSame_lifted (K : ∀ (x y : Msg), ∃ H1 Wr, Ctr Tryz.prog 7 [.agg (encMsg x), .agg (encMsg y)] (.sc (.bool true)) [] H1 Wr) (os : Os) (started : os.Started) (H : Type) (enc : TypeId × Value → H) :
    ReturnsInHanded {} Tryz.checked os 7 .any (Rows.valueSameSpec.pre6 enc Tryz.prog Tryz.f7 Rows.valueSameRow.domain false) (Rows.valueSameSpec.post enc Tryz.prog Tryz.f7 false true false false) := by
  refine returnsInHanded_of_change (C := Tryz.checked) own7 started (by kernel_rfl) Tryz.func7
    (ChangeSpec.witness6 (enc := enc) (C := Tryz.checked) false ⟨#[], #[.agg #[.slice none 0 0, .slice none 0 0], .agg #[.slice none 0 0, .slice none 0 0]], []⟩ 8 (by kernel_rfl) (by kernel_rfl) (by kernel_rfl) (by kernel_rfl)) ?_
  intro W base args ds gs before hval0 hW hcnd _
  have hval : ∀ (j : Nat) t v, Tryz.f7.params[j]? = some t → args[j]? = some v → Value.okWide Tryz.prog W .any base t v := hval0
  have hW' := hW
  obtain ⟨p, q, hA0, hV, rfl, hfz, hnd⟩ := hW
  have hA : DataW.TrodAll enc Tryz.prog W 0 (fun _ => true) true Tryz.f7.params.toList args.toList ds p := hA0
  rw [Tryz.params7] at hA hval
  obtain ⟨v0, v1, d0, d1, p0, p1, rfl, rfl, rfl, h0, h1⟩ := trodAll_two hA
  obtain ⟨rfl, rfl⟩ := trodVars_none hV
  obtain ⟨x, hx, hrelx⟩ := open_msg (hval 0 26 v0 rfl rfl) h0
  obtain ⟨y, hy, hrely⟩ := open_msg (hval 1 26 v1 rfl rfl) h1
  clear hA0 hval0
  simp only [List.append_nil] at hW'
  obtain ⟨H1, Wr, hctr⟩ := K x y
  refine (calls_of_ctr (W := W) (args := #[v0, v1]) hctr ⟨rfl, fun i z hz => ?_⟩).mono fun e W' ⟨he, hB⟩ => ?_
  · match i, hz with
    | 0, hz => simp at hz; subst hz; exact hrelx
    | 1, hz => simp at hz; subst hz; exact hrely
  subst he
  have hlt : ∀ z ∈ p0 ++ p1, z.block < W.heap.size := fun z hz => hW'.lt z hz
  have h0' := Below.trod laid7 (by kernel_rfl) (of_decide_eq_true (by kernel_rfl)) h0 hB (fun z hz => hlt z (List.mem_append_left _ hz))
  have h1' := Below.trod laid7 (by kernel_rfl) (of_decide_eq_true (by kernel_rfl)) h1 hB (fun z hz => hlt z (List.mem_append_right _ hz))
  refine ⟨_, rfl, _, _, _, [], p0 ++ p1, [], hW', ?_, ?_, ?_, hB.frame _, fun h => by cases h⟩
  · exact trodAll_mk1 (shut_bool Tryz.underlying4 true)
  · exact trodAll_mk2 h0' h1'
  · exact rfl
end Go.Proofs.YtiipaliigpkfhaaGreat
