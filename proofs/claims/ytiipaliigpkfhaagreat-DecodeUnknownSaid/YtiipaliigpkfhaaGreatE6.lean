/- The row of DecodeUnknown from a contract. -/
import Derived.Test.YtiipaliigpkfhaaGreatE1
import Derived.Test.YtiipaliigpkfhaaGreatRows
set_option linter.unusedVariables false
set_option maxRecDepth 100000
namespace Go.Proofs.YtiipaliigpkfhaaGreat
open Go.ChangeShapes Go.WideShapes Go.ChangeAt Go.RowKit Ab

theorem own13 : ownKnob Tryz.prog.godebug = none := by kernel_rfl
theorem laid13 : laidOutB Tryz.prog = true := by kernel_rfl

theorem decodeUnknown_lifted (K : ∀ (s : ByteArray) (nl : Bool) (l : List UInt8), (nl = true → l.length = 0) → ∃ H1 Wr, Ctr Tryz.prog 13 [.sc (.string s), encB nl l] (.sc (.bool true)) [] H1 Wr) (os : Os) (started : os.Started) (H : Type) (enc : TypeId × Value → H) :
    ReturnsInHanded {} Tryz.checked os 13 .any (Rows.decodeUnknownSpec.pre6 enc Tryz.prog Tryz.f13 Rows.decodeUnknownRow.domain false) (Rows.decodeUnknownSpec.post enc Tryz.prog Tryz.f13 false true false false) := by
  refine returnsInHanded_of_change (C := Tryz.checked) own13 started (by kernel_rfl) Tryz.func13
    (ChangeSpec.witness6 (enc := enc) (C := Tryz.checked) false ⟨#[], #[.string ⟨#[]⟩, .slice none 0 0], []⟩ 8 (by kernel_rfl) (by kernel_rfl) (by kernel_rfl) (by kernel_rfl)) ?_
  intro W base args ds gs before hval0 hW hcnd _
  have hval : ∀ (j : Nat) t v, Tryz.f13.params[j]? = some t → args[j]? = some v → Value.okWide Tryz.prog W .any base t v := hval0
  have hW' := hW
  obtain ⟨p, q, hA0, hV, rfl, hfz, hnd⟩ := hW
  have hA : DataW.TrodAll enc Tryz.prog W 0 (fun _ => true) true Tryz.f13.params.toList args.toList ds p := hA0
  rw [Tryz.params13] at hA hval
  obtain ⟨v0, v1, d0, d1, p0, p1, rfl, rfl, rfl, h0, h1⟩ := trodAll_two hA
  obtain ⟨rfl, rfl⟩ := trodVars_none hV
  obtain ⟨s, rfl⟩ := okWide_string Tryz.underlying9 (hval 0 9 v0 rfl rfl)
  obtain ⟨a, len, cap, rfl⟩ := okWide_slice Tryz.underlying23 (hval 1 23 v1 rfl rfl)
  obtain ⟨nl, l, hl, hrel⟩ : ∃ nl l, (nl = true → l.length = 0) ∧ Rel (Env.old W) (encB nl l) (.slice a len cap) := by
    obtain ⟨fuel, h⟩ := h1
    obtain ⟨nl, l, hT⟩ := told_bytes h
    have hr := (hT.2 0 _ rfl).2
    have hr : Rel (Env.old W).data (encB nl l) (.slice a len cap) := hr
    refine ⟨nl, l, fun hn => ?_, hr.mono (Env.data_le _)⟩
    subst hn
    unfold encB at hr
    generalize l.length = m at hr
    cases hr with
    | rnil => rfl
  clear hA0 hval0
  simp only [List.append_nil] at hW'
  obtain ⟨H1, Wr, hctr⟩ := K s nl l hl
  refine (calls_of_ctr (W := W) (args := #[.string s, .slice a len cap]) hctr ⟨rfl, fun i z hz => ?_⟩).mono fun e W' ⟨he, hB⟩ => ?_
  · match i, hz with
    | 0, hz => simp at hz; subst hz; exact .sc _ rfl
    | 1, hz => simp at hz; subst hz; exact hrel
  subst he
  have hlt : ∀ z ∈ p0 ++ p1, z.block < W.heap.size := fun z hz => hW'.lt z hz
  have h0' := Below.trod laid13 (by kernel_rfl) (of_decide_eq_true (by kernel_rfl)) h0 hB (fun z hz => hlt z (List.mem_append_left _ hz))
  have h1' := Below.trod laid13 (by kernel_rfl) (of_decide_eq_true (by kernel_rfl)) h1 hB (fun z hz => hlt z (List.mem_append_right _ hz))
  refine ⟨_, rfl, _, _, _, [], p0 ++ p1, [], hW', ?_, ?_, ?_, hB.frame _, fun h => by cases h⟩
  · exact trodAll_mk1 (shut_bool Tryz.underlying4 true)
  · exact trodAll_mk2 h0' h1'
  · exact rfl
end Go.Proofs.YtiipaliigpkfhaaGreat
