/- Part N6: a function whose body panics and whose deferred closure recovers, evaluated. -/
import Derived.Test.YtiipaliigpkfhaaGreatN5
set_option linter.unusedVariables false
set_option linter.unusedSimpArgs false
set_option maxRecDepth 100000
namespace Go.Proofs.YtiipaliigpkfhaaGreat.Ab
open Go Go.RowKit

noncomputable def fnPT (P : Program) (call : CallT) (lo : LoopO) (rt : ToldR) (callE : CallE) (n : Nat) (g : FuncId) (args : List AV) (H : AHeap) : Tree (AV × AHeap × List Nat) :=
  match P.funcs[g]? with
  | none => .bad
  | some fn => match fn.body with
    | none => .bad
    | some c => if (fn.name == "runtime.NumGoroutine") = true then .bad else
      (evBT P call lo rt n c (startA fn args) H []).bind fun r => match r.1, r.2.2.2.2 with
        | .panic x, [.call q qargs] => match evQP P callE n q qargs r.2.2.1 x with
          | .ok (H2, W2) => match resultC P H2 fn r.2.1 with
            | some y => .leaf (y, H2, below H.length (r.2.2.2.1 ++ W2))
            | none => .bad
          | .bad _ => .bad
        | _, _ => .bad

theorem fnPT_ok {P : Program} (hm : P.follows .mixedOrders = true) {call : CallT} (hc : CallTOk P call) {lo : LoopO} (hl : LoopsOk P lo) {rt : ToldR} {callE : CallE} (hce : CallOk P callE) {n : Nat} {g : FuncId} {args : List AV} {H : AHeap} {r : AV × AHeap × List Nat} (h : (fnPT P call lo rt callE n g args H).sel = some r) : Ctr P g args r.1 H r.2.1 r.2.2 := by
  unfold fnPT at h
  split at h
  · exact (Tree.sel_bad h).elim
  · rename_i fn hfn
    split at h
    · exact (Tree.sel_bad h).elim
    · rename_i c hbody
      split at h
      · exact (Tree.sel_bad h).elim
      · rename_i hname
        obtain ⟨⟨y, T, H1, W1, D⟩, h1, h⟩ := sel_bind_some h
        have hbo := evBT_ok hm hc hl rt n c _ _ _ _ _ _ _ _ h1
        split at h
        · rename_i x q qargs hx hD
          simp only at hx hD
          subst hx hD
          split at h
          · rename_i H2 W2 hq
            split at h
            · rename_i z hz
              rw [Tree.sel_leaf h]
              exact ctr_of_bodyP hm hce hfn (by simpa using hname) hbody hbo hq hz
            · exact (Tree.sel_bad h).elim
          · exact (Tree.sel_bad h).elim
        · exact (Tree.sel_bad h).elim

/-- The closed evaluator, without oracles. -/
def callG (P : Program) (n : Nat) : CallE := evG P (fun _ _ _ => none) n
theorem callG_ok {P : Program} (hm : P.follows .mixedOrders = true) (n : Nat) : CallOk P (callG P n) := evG_ok hm (fun _ _ _ _ _ _ h => by cases h) n
end Go.Proofs.YtiipaliigpkfhaaGreat.Ab
