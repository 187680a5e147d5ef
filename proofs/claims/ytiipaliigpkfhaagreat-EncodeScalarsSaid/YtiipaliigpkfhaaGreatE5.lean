/- The row of EncodeScalars from a contract. -/
import Derived.Test.YtiipaliigpkfhaaGreatE1
import Derived.Test.YtiipaliigpkfhaaGreatRows
set_option linter.unusedVariables false
set_option maxRecDepth 100000
namespace Go.Proofs.YtiipaliigpkfhaaGreat
open Go.ChangeShapes Go.WideShapes Go.ChangeAt Go.RowKit Ab

theorem own8 : ownKnob Tryz.prog.godebug = none := by kernel_rfl
theorem laid8 : laidOutB Tryz.prog = true := by kernel_rfl

theorem encodeScalars_lifted (K : ∀ (k : Int) (x : Val), (Lit.int .i64 k).wf = true → x.ok → ∃ H1 Wr, Ctr Tryz.prog 8 [.sc (.int .i64 k), .agg (encVal x)] (.sc (.bool true)) [] H1 Wr) (os : Os) (started : os.Started) (H : Type) (enc : TypeId × Value → H) :
    ReturnsInHanded {} Tryz.checked os 8 .any (Rows.encodeScalarsSpec.pre6 enc Tryz.prog Tryz.f8 Rows.encodeScalarsRow.domain false) (Rows.encodeScalarsSpec.post enc Tryz.prog Tryz.f8 false true false false) := by
  refine returnsInHanded_of_change (C := Tryz.checked) own8 started (by kernel_rfl) Tryz.func8
    (ChangeSpec.witness6 (enc := enc) (C := Tryz.checked) false ⟨#[], #[.int .i64 0, .agg #[.int .u64 0, .slice none 0 0, .slice none 0 0, .slice none 0 0]], []⟩ 8 (by kernel_rfl) (by kernel_rfl) (by kernel_rfl) (by kernel_rfl)) ?_
  intro W base args ds gs before hval0 hW hcnd _
  have hval : ∀ (j : Nat) t v, Tryz.f8.params[j]? = some t → args[j]? = some v → Value.okWide Tryz.prog W .any base t v := hval0
  have hW' := hW
  obtain ⟨p, q, hA0, hV, rfl, hfz, hnd⟩ := hW
  have hA : DataW.TrodAll enc Tryz.prog W 0 (fun _ => true) true Tryz.f8.params.toList args.toList ds p := hA0
  rw [Tryz.params8] at hA hval
  obtain ⟨v0, v1, d0, d1, p0, p1, rfl, rfl, rfl, h0, h1⟩ := trodAll_two hA
  obtain ⟨rfl, rfl⟩ := trodVars_none hV
  obtain ⟨a, rfl, rfl, rfl, wa⟩ := open_int Tryz.underlying3 (hval 0 3 v0 rfl rfl) h0
  obtain ⟨x, hx, hrel⟩ := open_val (hval 1 28 v1 rfl rfl) h1
  clear hA0 hval0
  simp only [List.append_nil] at hW'
  obtain ⟨H1, Wr, hctr⟩ := K a x wa hx
  refine (calls_of_ctr (W := W) (args := #[.int .i64 a, v1]) hctr ⟨rfl, fun i y hy => ?_⟩).mono fun e W' ⟨he, hB⟩ => ?_
  · match i, hy with
    | 0, hy => simp at hy; subst hy; exact .sc _ rfl
    | 1, hy => simp at hy; subst hy; exact hrel
  subst he
  have hlt : ∀ z ∈ p1, z.block < W.heap.size := fun z hz => hW'.lt z (by simp; exact hz)
  have h1' := Below.trod laid8 (by kernel_rfl) (of_decide_eq_true (by kernel_rfl)) h1 hB hlt
  refine ⟨_, rfl, _, _, _, [], [] ++ p1, [], hW', ?_, ?_, ?_, hB.frame _, fun h => by cases h⟩
  · exact trodAll_mk1 (shut_bool Tryz.underlying4 true)
  · exact trodAll_mk2 (shut_int Tryz.underlying3 wa) h1'
  · exact rfl
end Go.Proofs.YtiipaliigpkfhaaGreat
