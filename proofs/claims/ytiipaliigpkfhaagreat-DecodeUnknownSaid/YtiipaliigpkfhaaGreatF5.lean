/- ValueScalars answers true. -/
import Derived.Test.YtiipaliigpkfhaaGreatF4
set_option linter.unusedVariables false
set_option linter.unusedSimpArgs false
set_option maxRecDepth 100000
namespace Go.Proofs.YtiipaliigpkfhaaGreat.Ab
open Go Go.RowKit Go.Proofs

/-- Any alarm clock that rings true. -/
def orAwake (g0 : FuncId) : OrcT := fun g args H => if g = g0 then match args with
    | [] => some (.leaf (.sc (.bool true), H, []))
    | _ => none
  else none
theorem orAwake_ok {P : Program} {g0 : FuncId} (h : ∀ H, Ctr P g0 [] (.sc (.bool true)) H H []) : OrcOk P (orAwake g0) := by
  intro g args H t r ho hr
  unfold orAwake at ho
  split at ho
  · rename_i hg
    subst hg
    split at ho
    · cases ho; rw [Tree.sel_leaf hr]; exact h H
    · cases ho
  · cases ho

noncomputable def orKnown (P : Program) (g0 : FuncId) (k : Kind) : OrcT := fun g args H => if g = g0 then some (knownT P k g0 args H) else none
theorem orKnown_ok {P : Program} {g0 : FuncId} {k : Kind} : OrcOk P (orKnown P g0 k) := by
  intro g args H t r h hr
  unfold orKnown at h
  split at h
  · rename_i hg; cases h; subst hg; exact knownT_ok hr
  · cases h

def orScalar (g0 : FuncId) (f : Int → Int → Nat → Nat → Nat → Bool) : OrcT := fun g args H => if g = g0 then match args with
    | [.sc (.int .i64 k), .agg [.sc (.int .u64 N), .rsl _ 1 lb _ .non, .rsl _ 2 ls _ .non, .rsl _ 1 lu _ .non]] => some (.leaf (.sc (.bool (f k N lb ls lu)), H, []))
    | _ => none
  else none
theorem orScalar_ok {P : Program} {g0 : FuncId} {f : Int → Int → Nat → Nat → Nat → Bool} (h : ∀ (k N : Int) (a s u : Bool) (lb ls lu : Nat) (fb fs fu : Nat → List AV) (H : AHeap), Ctr P g0 [.sc (.int .i64 k), .agg [.sc (.int .u64 N), .rsl a 1 lb fb .non, .rsl s 2 ls fs .non, .rsl u 1 lu fu .non]] (.sc (.bool (f k N lb ls lu))) H H []) : OrcOk P (orScalar g0 f) := by
  intro g args H t r ho hr
  unfold orScalar at ho
  split at ho
  · rename_i hg
    subst hg
    split at ho
    · cases ho; rw [Tree.sel_leaf hr]; exact h _ _ _ _ _ _ _ _ _ _ _ H
    · cases ho
  · cases ho

noncomputable def orc3 : OrcT := orElse (orAwake 14) (orElse (orKnown Tryz.prog 15 .bool) (orElse (orScalar 16 s16) (orScalar 17 s17)))
theorem orc3_ok : OrcOk Tryz.prog orc3 := orElse_ok (orAwake_ok awake17_ctr) (orElse_ok orKnown_ok (orElse_ok (orScalar_ok scalar16_ctr) (orScalar_ok scalar17_ctr)))

theorem few_known (m : Msg) : Known Tryz.prog .bool 15 [.agg (msgP m)] := ⟨if fewF m then 1 else 0, fun H => by
  have := few_ctr m H
  cases h : fewF m with
  | true => rw [h] at this; exact this
  | false => rw [h] at this; exact this⟩

theorem scalars_tree (k : Int) (x : Val) : (evGT Tryz.prog orc3 10 3 [.sc (.int .i64 k), .agg (valP x)] []).via ansA =
    bif knownB Tryz.prog .bool 15 [.agg (msgP x.m)] then
      (bif !(knownN Tryz.prog .bool 15 [.agg (msgP x.m)] == 1) then T true
       else T (s16 k x.n x.b.length x.m.slots.length x.m.unknown.length == s17 k x.n x.b.length x.m.slots.length x.m.unknown.length)) else none := by kernel_rfl

theorem lf_val (x : Val) : ∀ y ∈ valP x, LF y := by
  intro y hy
  simp only [valP, List.mem_cons, List.mem_nil_iff, or_false] at hy
  rcases hy with rfl | rfl | rfl | rfl
  · exact .sc _
  · exact .rsl _ _ _ _ _ (by simp)
  · exact .rsl _ _ _ _ _ (by simp)
  · exact .rsl _ _ _ _ _ (by simp)

theorem scalars_ctr (k : Int) (x : Val) (h0 : 0 ≤ x.n) (h1 : x.n < 18446744073709551616) : Ctr Tryz.prog 3 [.sc (.int .i64 k), .agg (valP x)] (.sc (.bool true)) [] [] [] := by
  have hb := scalars_tree k x
  rw [knownB_of (few_known x.m), s_eq _ _ _ h0 h1] at hb
  refine ctr_sc mixed orc3_ok hb ?_ (fun y hy => ?_) []
  · simp only [cond_true, beq_self_eq_true, T_cond]
    simp [T]
  · simp only [List.mem_cons, List.mem_nil_iff, or_false] at hy
    rcases hy with rfl | rfl
    · exact .sc _
    · exact .agg _ (lf_val x)
end Go.Proofs.YtiipaliigpkfhaaGreat.Ab
