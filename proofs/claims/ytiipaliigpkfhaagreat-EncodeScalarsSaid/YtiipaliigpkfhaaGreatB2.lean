/- Part 11: calls as operations. -/
import Derived.Test.YtiipaliigpkfhaaGreatB1
set_option linter.unusedVariables false
set_option linter.unusedSimpArgs false
namespace Go.Proofs.YtiipaliigpkfhaaGreat.Ab
open Go Go.RowKit

section
variable {P : Program} {o : Oper} {T : List AV} {H : AHeap}

/-- A function that has a body. -/
def HasBody (P : Program) (g : FuncId) : Prop := ∃ fn c, P.funcs[g]? = some fn ∧ (fn.name == "runtime.NumGoroutine") = false ∧ fn.body = some c

theorem getD_append_left {xs ys : Array Value} {i : Nat} (h : i < xs.size) : (xs ++ ys).getD i undef = xs.getD i undef := by
  simp [Array.getD_eq_getD_getElem?, Array.getElem?_append, h]
theorem getD_append_right {xs ys : Array Value} {i : Nat} (h : xs.size ≤ i) : (xs ++ ys).getD i undef = ys.getD (i - xs.size) undef := by
  simp [Array.getD_eq_getD_getElem?, Array.getElem?_append, Nat.not_lt.2 h]

theorem relL_append {E : Env} {xs ys : List AV} {us vs : Array Value} (h : RelL E xs us) (k : RelL E ys vs) : RelL E (xs ++ ys) (us ++ vs) := by
  refine ⟨by simp [h.1, k.1], fun i x hx => ?_⟩
  rcases Nat.lt_or_ge i xs.length with hi | hi
  · rw [List.getElem?_append_left hi] at hx
    rw [getD_append_left (by rw [h.1]; exact hi)]
    exact h.2 i x hx
  · rw [List.getElem?_append_right hi] at hx
    rw [getD_append_right (by rw [h.1]; exact hi), h.1]
    exact k.2 _ x hx

theorem opA_call {c : Call} {f : Operand} {g : FuncId} {first caps : List AV} {x : AV} {H' : AHeap} {W : Nat → Prop} {Wr : List Nat} (ho : o.op = .call c) (hc : c.callee = .value f) (hf : opdA T f = .fn (.func g) first caps) (hb : HasBody P g)
    (h : CallsA P g (first ++ c.args.toList.map (opdA T) ++ caps) (.ret x) H H' W) (hW : ∀ l, l < H.length → W l → l ∈ Wr) : OpA P o T H x H' Wr := by
  intro E w0 w ρ hg ht
  have hr := ht f (by simp [ho, Op.operands, Call.operands, hc])
  rw [hf] at hr
  generalize hv : ρ f = v at hr
  cases hr with
  | fn _ _ _ us vs h1 h2 k1 k2 =>
    obtain ⟨fn, cd, hfn, hname, hbody⟩ := hb
    have hargs : RelL E (first ++ c.args.toList.map (opdA T) ++ caps) (us ++ c.args.map ρ ++ vs) :=
      relL_append (relL_append ⟨h1, k1⟩ (rel_list c.args (fun y hy => ht y (by simp [ho, Op.operands, Call.operands, hy])))) ⟨h2, k2⟩
    have hrun : (execOp ρ o).run P w = .ok (.enter g (us ++ c.args.map ρ ++ vs)) w := by
      simp only [execOp, ho, resolve, hc, hv, Deferred.ofValue, pure_bind, invoke]
      have h1 : fn.name ≠ "runtime.NumGoroutine" := by simpa using hname
      simp [callFunc, hfn, h1, hbody]
    unfold OpR
    rw [hrun]
    refine (h E w0 w _ hg hargs).mono ?_
    rintro e w' ⟨E', re, ex, g'⟩
    cases re with
    | ret x v hv' => exact ⟨E', ex.weaken (Nat.le_refl _) hW, g', hv'⟩

/-! ### Two operands, told by what they stand for -/
theorem opS_bin {op : BinOp} {t t2 : TypeId} {p q : Operand} {r : Value} (ho : o.op = .binOp op t p q t2) (hr : plain r = true)
    (h : ∀ (E : Env) (v u : Value), Rel E (opdA T p) v → Rel E (opdA T q) u → pureEval P (do eqGuard op t p q v u; binOp op t v u) = some r) : OpS P o T H (.sc r) := by
  refine opS_intro fun E w0 w ρ hg ht => ⟨r, ?_, .sc r hr⟩
  have := pureEval_run (h E _ _ (ht p (by simp [ho, Op.operands, Call.operands])) (ht q (by simp [ho, Op.operands, Call.operands]))) w
  simp only [execOp, ho]
  rw [Sem.run_bind, this]
  rfl

theorem pureEval_bind {α β : Type} {s : Sem α} {f : α → Sem β} {x : α} (h : pureEval P s = some x) : pureEval P (s >>= f) = pureEval P (f x) := by
  show pureEval P (s.bind f) = _
  induction s with
  | pure a => simp only [pureEval, Option.some.injEq] at h; subst h; rfl
  | program k ih => simp only [pureEval] at h; simp only [Sem.bind, pureEval]; exact ih P h
  | mark m k ih => simp only [pureEval] at h; simp only [Sem.bind, pureEval]; exact ih h
  | _ => simp [pureEval] at h

/-- A pointer, a slice, a function, a map, an interface value against nil: is it nil? -/
def nilA : AV → AV → Option Bool
  | .ptr _ _, .sc (.pointer none) => some false
  | .rptr _, .sc (.pointer none) => some false
  | .sc (.pointer none), .sc (.pointer none) => some true
  | .rsl nl _ _ _ _, .rsl true _ 0 _ _ => some nl
  | .fn _ _ _, .sc .nilFunc => some false
  | .mapr _, .sc (.map none) => some false
  | .ifc _ _, .sc .nilIface => some false
  | _, _ => none

/-- Which types these are of. -/
def nilTy : AV → TypeDesc → Bool
  | .ptr _ _, .pointer _ => true
  | .rptr _, .pointer _ => true
  | .sc (.pointer none), .pointer _ => true
  | .rsl _ _ _ _ _, .slice _ => true
  | .fn _ _ _, .func _ _ _ => true
  | .mapr _, .map _ _ => true
  | .ifc _ _, .interface _ => true
  | _, _ => false

theorem rsl_nil {E : Env} {nl : Bool} {sz n : Nat} {el : Nat → List AV} {own : Own} {v : Value} (h : Rel E (.rsl nl sz n el own) v) : ∃ A k, v = .slice A n k ∧ A.isNone = nl := by
  cases h <;> exact ⟨_, _, rfl, rfl⟩

theorem opS_nil {op : BinOp} {t t2 : TypeId} {p q : Operand} {d : TypeDesc} {b : Bool} (ho : o.op = .binOp op t p q t2) (hop : op = .eql ∨ op = .neq) (hu : pureEval P (underlying t) = some d) (hd : nilTy (opdA T p) d = true)
    (hb : nilA (opdA T p) (opdA T q) = some b) : OpS P o T H (.sc (.bool (if op = .neq then !b else b))) := by
  refine opS_bin ho rfl fun E v u hv hu' => ?_
  generalize opdA T p = x at *
  generalize opdA T q = y at *
  have key : ∀ (v u : Value), (∀ c, v ≠ .agg c) → v ≠ .nilIface → (∀ k n, v ≠ .int k n) → (∀ k n, v ≠ .float k n) → (∀ k n m, v ≠ .complex k n m) → (∀ s, v ≠ .string s) → pureEval P (Op.equal t v u) = some b →
      pureEval P (do eqGuard op t p q v u; binOp op t v u) = some (.bool (if op = .neq then !b else b)) := by
    intro v u h1 h2 h3 h4 h5 h6 h
    have hg : pureEval P (eqGuard op t p q v u) = some () := by
      unfold eqGuard
      rcases hop with rfl | rfl <;> cases v <;> first | exact absurd rfl (h1 _) | exact absurd rfl h2 | rfl
    rw [pureEval_bind hg]
    have e1 : pureEval P (do pure (Value.bool (← Op.equal t v u))) = some (.bool b) := by rw [pureEval_bind h]; rfl
    have e2 : pureEval P (do pure (Value.bool (!(← Op.equal t v u)))) = some (.bool (!b)) := by rw [pureEval_bind h]; rfl
    rcases hop with rfl | rfl
    · unfold binOp
      cases v <;> first | exact absurd rfl (h3 _ _) | exact absurd rfl (h4 _ _) | exact absurd rfl (h5 _ _ _) | exact absurd rfl (h6 _) | exact e1
    · unfold binOp
      cases v <;> first | exact absurd rfl (h3 _ _) | exact absurd rfl (h4 _ _) | exact absurd rfl (h5 _ _ _) | exact absurd rfl (h6 _) | exact e2
  have fin : ∀ (v u : Value), pureEval P (Op.equal t v u) = pureEval P (Op.equal t v u) := fun _ _ => rfl
  clear fin
  unfold nilA at hb
  split at hb <;> simp only [Option.some.injEq, reduceCtorEq] at hb
  · subst hb
    cases hv with
    | ptr l o' bb hb' =>
      cases hu'
      refine key _ _ (by simp) (by simp) (by simp) (by simp) (by simp) (by simp) ?_
      cases d <;> simp [nilTy] at hd
      unfold Op.equal Op.maxDepth Op.equalIn
      rw [pureEval_bind hu]
      rfl
  · subst hb
    cases hv with
    | rptr cs bb off uu hs hk =>
      cases hu'
      refine key _ _ (by simp) (by simp) (by simp) (by simp) (by simp) (by simp) ?_
      cases d <;> simp [nilTy] at hd
      unfold Op.equal Op.maxDepth Op.equalIn
      rw [pureEval_bind hu]
      rfl
  · subst hb
    cases hv
    cases hu'
    refine key _ _ (by simp) (by simp) (by simp) (by simp) (by simp) (by simp) ?_
    cases d <;> simp [nilTy] at hd
    unfold Op.equal Op.maxDepth Op.equalIn
    rw [pureEval_bind hu]
    rfl
  · subst hb
    obtain ⟨A, k, rfl, hA⟩ := rsl_nil hv
    cases hu' with
    | rnil =>
      refine key _ _ (by simp) (by simp) (by simp) (by simp) (by simp) (by simp) ?_
      cases d <;> simp [nilTy] at hd
      unfold Op.equal Op.maxDepth Op.equalIn
      rw [pureEval_bind hu]
      subst hA
      cases A <;> rfl
  · subst hb
    cases hv with
    | fn =>
      cases hu'
      refine key _ _ (by simp) (by simp) (by simp) (by simp) (by simp) (by simp) ?_
      cases d <;> simp [nilTy] at hd
      unfold Op.equal Op.maxDepth Op.equalIn
      rw [pureEval_bind hu]
      rfl
  · subst hb
    cases hv with
    | mapr =>
      cases hu'
      refine key _ _ (by simp) (by simp) (by simp) (by simp) (by simp) (by simp) ?_
      cases d <;> simp [nilTy] at hd
      unfold Op.equal Op.maxDepth Op.equalIn
      rw [pureEval_bind hu]
      rfl
  · subst hb
    cases hv with
    | ifc =>
      cases hu'
      refine key _ _ (by simp) (by simp) (by simp) (by simp) (by simp) (by simp) ?_
      cases d <;> simp [nilTy] at hd
      unfold Op.equal Op.maxDepth Op.equalIn
      rw [pureEval_bind hu]
      rfl
end
end Go.Proofs.YtiipaliigpkfhaaGreat.Ab
