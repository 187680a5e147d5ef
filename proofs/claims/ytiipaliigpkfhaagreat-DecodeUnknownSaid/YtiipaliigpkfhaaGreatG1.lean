/- How deep a message is, as the program and as the reference reckon it; when two are alike. No program in sight. -/
import Derived.Test.YtiipaliigpkfhaaGreatF5
set_option linter.unusedVariables false
set_option linter.unusedSimpArgs false
set_option maxRecDepth 100000
namespace Go.Proofs.YtiipaliigpkfhaaGreat.Ab
open Go Go.RowKit Go.Proofs

def bareN (ls lu : Nat) : Bool := bif (ls : Int) == 0 then (lu : Int) == 0 else false
def mx (d u : Int) : Int := if u > d then u else d
def up (a : Int) : Int := IntKind.wrap .i64 (a + 1)

/-! ### The program's -/
mutual
def downM : Msg → Int → Int
  | .mk _ s _ _, a => (downS s a a).2
def downS : List Slot → Int → Int → Bool × Int
  | [], _, d => (true, d)
  | .mk _ _ v :: r, a, d => bif (downV v a d).1 then downS r a (downV v a d).2 else (false, (downV v a d).2)
def downV : List Val → Int → Int → Bool × Int
  | [], _, d => (true, d)
  | .mk _ _ _ m :: r, a, d => bif decide (d > 64) then (false, d) else downV r a (bif !bareN m.slots.length m.unknown.length then mx d (downM m (up a)) else d)
end

/-! ### The reference's -/
mutual
def deepM : Msg → Int → Int
  | .mk _ s _ _, a => bif decide (a > 64) then a else (deepS s a a).2
def deepS : List Slot → Int → Int → Bool × Int
  | [], _, d => (true, d)
  | .mk _ _ v :: r, a, d => bif (deepV v a d).1 then deepS r a (deepV v a d).2 else (false, (deepV v a d).2)
def deepV : List Val → Int → Int → Bool × Int
  | [], _, d => (true, d)
  | .mk _ _ _ m :: r, a, d =>
    bif decide ((bif decide ((m.slots.length : Int) > 0) then mx d (deepM m (up a)) else bif decide ((m.unknown.length : Int) > 0) then mx d (deepM m (up a)) else mx d a) > 64) then
      (false, (bif decide ((m.slots.length : Int) > 0) then mx d (deepM m (up a)) else bif decide ((m.unknown.length : Int) > 0) then mx d (deepM m (up a)) else mx d a))
    else deepV r a (bif decide ((m.slots.length : Int) > 0) then mx d (deepM m (up a)) else bif decide ((m.unknown.length : Int) > 0) then mx d (deepM m (up a)) else mx d a)
end

theorem wrap64 {x : Int} (h0 : 0 ≤ x) (h1 : x < 9223372036854775808) : IntKind.wrap .i64 x = x := wrap_i64 h0 h1

theorem mx_le {d u : Int} : d ≤ mx d u := by unfold mx; split <;> omega
theorem mx_le' {d u : Int} : u ≤ mx d u := by unfold mx; split <;> omega

theorem downV_le : ∀ (v : List Val) (a d : Int), d ≤ (downV v a d).2
  | [], a, d => by simp [downV]
  | .mk _ _ _ m :: r, a, d => by
    simp only [downV]
    cases decide (d > 64) with
    | true => exact Int.le_refl _
    | false =>
      simp only [cond_false]
      refine Int.le_trans ?_ (downV_le r a _)
      cases (!bareN m.slots.length m.unknown.length) with
      | true => exact mx_le
      | false => exact Int.le_refl _

theorem downS_le : ∀ (s : List Slot) (a d : Int), d ≤ (downS s a d).2
  | [], a, d => by simp [downS]
  | .mk _ _ v :: r, a, d => by
    simp only [downS]
    cases (downV v a d).1 with
    | true => exact Int.le_trans (downV_le v a d) (downS_le r a _)
    | false => exact downV_le v a d

/-- Past the bound both say so. -/
def Like (x y : Int) : Prop := (x ≤ 64 ∧ y = x) ∨ (64 < x ∧ 64 < y)

theorem downV_far : ∀ (v : List Val) (a d : Int), 64 < d → (downV v a d).2 = d
  | [], a, d, h => by simp [downV]
  | .mk _ _ _ m :: r, a, d, h => by simp [downV, h]

theorem downS_far : ∀ (s : List Slot) (a d : Int), 64 < d → (downS s a d).2 = d
  | [], a, d, h => by simp [downS]
  | .mk _ _ v :: r, a, d, h => by
    simp only [downS, downV_far v a d h]
    cases (downV v a d).1 with
    | true => exact downS_far r a d h
    | false => rfl

theorem deepV_far : ∀ (v : List Val) (a d : Int), 64 < d → 64 < (deepV v a d).2
  | [], a, d, h => by simpa [deepV] using h
  | .mk _ _ _ m :: r, a, d, h => by
    simp only [deepV]
    have h1 : 64 < (bif decide ((m.slots.length : Int) > 0) then mx d (deepM m (up a)) else bif decide ((m.unknown.length : Int) > 0) then mx d (deepM m (up a)) else mx d a) := by
      have := @mx_le d (deepM m (up a))
      have := @mx_le d a
      cases decide ((m.slots.length : Int) > 0) <;> cases decide ((m.unknown.length : Int) > 0) <;> simp only [cond_true, cond_false] <;> omega
    rw [decide_eq_true (show _ > (64 : Int) from h1)]
    exact h1

theorem deepS_far : ∀ (s : List Slot) (a d : Int), 64 < d → 64 < (deepS s a d).2
  | [], a, d, h => by simpa [deepS] using h
  | .mk _ _ v :: r, a, d, h => by
    simp only [deepS]
    cases (deepV v a d).1 with
    | true => exact deepS_far r a _ (deepV_far v a d h)
    | false => exact deepV_far v a d h

theorem deepV_flag : ∀ (v : List Val) (a d : Int), (deepV v a d).1 = false → 64 < (deepV v a d).2
  | [], a, d, h => by simp [deepV] at h
  | .mk _ _ _ m :: r, a, d, h => by
    simp only [deepV] at h ⊢
    cases hd : decide ((bif decide ((m.slots.length : Int) > 0) then mx d (deepM m (up a)) else bif decide ((m.unknown.length : Int) > 0) then mx d (deepM m (up a)) else mx d a) > 64) with
    | true => exact of_decide_eq_true hd
    | false => rw [hd] at h; exact deepV_flag r a _ h

theorem downV_flag : ∀ (v : List Val) (a d : Int), (downV v a d).1 = false → 64 < (downV v a d).2
  | [], a, d, h => by simp [downV] at h
  | .mk _ _ _ m :: r, a, d, h => by
    simp only [downV] at h ⊢
    cases hd : decide (d > 64) with
    | true => exact of_decide_eq_true hd
    | false => rw [hd] at h; exact downV_flag r a _ h

theorem bareN_eq (ls lu : Nat) : (!bareN ls lu) = (decide ((ls : Int) > 0) || decide ((lu : Int) > 0)) := by
  unfold bareN
  by_cases h1 : ls = 0 <;> by_cases h2 : lu = 0
  · subst h1 h2; rfl
  · subst h1
    have e1 : ((lu : Int) == 0) = false := by rw [beq_eq_false_iff_ne]; omega
    have e2 : decide ((lu : Int) > 0) = true := by rw [decide_eq_true_eq]; omega
    rw [e1, e2]; rfl
  · have e1 : ((ls : Int) == 0) = false := by rw [beq_eq_false_iff_ne]; omega
    have e2 : decide ((ls : Int) > 0) = true := by rw [decide_eq_true_eq]; omega
    rw [e1, e2]; rfl
  · have e1 : ((ls : Int) == 0) = false := by rw [beq_eq_false_iff_ne]; omega
    have e2 : decide ((ls : Int) > 0) = true := by rw [decide_eq_true_eq]; omega
    rw [e1, e2]; rfl

theorem deep_step (m : Msg) (a d : Int) : (bif decide ((m.slots.length : Int) > 0) then mx d (deepM m (up a)) else bif decide ((m.unknown.length : Int) > 0) then mx d (deepM m (up a)) else mx d a) = bif !bareN m.slots.length m.unknown.length then mx d (deepM m (up a)) else mx d a := by
  rw [bareN_eq]
  cases decide ((m.slots.length : Int) > 0) <;> cases decide ((m.unknown.length : Int) > 0) <;> rfl

mutual
theorem like_M : ∀ (m : Msg) (a : Int), 1 ≤ a → a ≤ 65 → Like (downM m a) (deepM m a)
  | .mk _ s _ _, a, h1, h2 => by
    simp only [downM, deepM]
    by_cases h : 64 < a
    · have := downS_le s a a
      rw [decide_eq_true (show a > 64 from h)]
      exact .inr ⟨by omega, h⟩
    · rw [decide_eq_false (show ¬ a > 64 from h)]
      exact like_S s a a a h1 (by omega) (Int.le_refl _) (.inl ⟨by omega, rfl⟩)
theorem like_S : ∀ (s : List Slot) (a d d' : Int), 1 ≤ a → a ≤ 64 → a ≤ d → Like d d' → Like (downS s a d).2 (deepS s a d').2
  | [], a, d, d', h1, h2, h3, h4 => by simpa [downS, deepS] using h4
  | .mk _ _ v :: r, a, d, d', h1, h2, h3, h4 => by
    have hv := like_V v a d d' h1 h2 h3 h4
    have hle := downV_le v a d
    simp only [downS, deepS]
    have big : 64 < (downV v a d).2 → 64 < (deepV v a d').2 → Like (bif (downV v a d).1 then downS r a (downV v a d).2 else (false, (downV v a d).2)).2 (bif (deepV v a d').1 then deepS r a (deepV v a d').2 else (false, (deepV v a d').2)).2 := by
      intro b1 b2
      refine .inr ⟨?_, ?_⟩
      · cases (downV v a d).1 with
        | true => simp only [cond_true]; rw [downS_far r a _ b1]; exact b1
        | false => exact b1
      · cases (deepV v a d').1 with
        | true => exact deepS_far r a _ b2
        | false => exact b2
    rcases hv with ⟨b1, b2⟩ | ⟨b1, b2⟩
    · have f1 : (downV v a d).1 = true := by
        cases hf : (downV v a d).1 with
        | true => rfl
        | false => have := downV_flag v a d hf; omega
      have f2 : (deepV v a d').1 = true := by
        cases hf : (deepV v a d').1 with
        | true => rfl
        | false => have := deepV_flag v a d' hf; omega
      rw [f1, f2]
      exact like_S r a _ _ h1 h2 (by omega) (.inl ⟨b1, b2⟩)
    · exact big b1 b2
theorem like_V : ∀ (v : List Val) (a d d' : Int), 1 ≤ a → a ≤ 64 → a ≤ d → Like d d' → Like (downV v a d).2 (deepV v a d').2
  | [], a, d, d', h1, h2, h3, h4 => by simpa [downV, deepV] using h4
  | .mk n nl b m :: r, a, d, d', h1, h2, h3, h4 => by
    rcases h4 with ⟨b1, b2⟩ | ⟨b1, b2⟩
    · have b3 := b2.symm
      subst b3
      have hu : up a = a + 1 := by unfold up; exact wrap64 (by omega) (by omega)
      have hm := like_M m (up a) (by omega) (by omega)
      simp only [downV, deepV, deep_step]
      rw [decide_eq_false (show ¬ d > 64 by omega)]
      simp only [cond_false]
      cases hb : !bareN m.slots.length m.unknown.length with
      | true =>
        simp only [cond_true]
        have hl : Like (mx d (downM m (up a))) (mx d (deepM m (up a))) := by
          rcases hm with ⟨c1, c2⟩ | ⟨c1, c2⟩
          · rw [c2]
            refine .inl ⟨?_, rfl⟩
            unfold mx; split <;> omega
          · exact .inr ⟨Int.lt_of_lt_of_le c1 mx_le', Int.lt_of_lt_of_le c2 mx_le'⟩
        rcases hl with ⟨c1, c2⟩ | ⟨c1, c2⟩
        · rw [c2, decide_eq_false (show ¬ mx d (downM m (up a)) > 64 by omega)]
          exact like_V r a _ _ h1 h2 (Int.le_trans h3 mx_le) (.inl ⟨c1, rfl⟩)
        · rw [decide_eq_true (show mx d (deepM m (up a)) > 64 from c2)]
          exact .inr ⟨by rw [downV_far r a _ c1]; exact c1, c2⟩
      | false =>
        simp only [cond_false]
        have e : mx d a = d := by unfold mx; split <;> omega
        rw [e, decide_eq_false (show ¬ d > 64 by omega)]
        exact like_V r a _ _ h1 h2 h3 (.inl ⟨b1, rfl⟩)
    · exact .inr ⟨by rw [downV_far _ a _ b1]; exact b1, deepV_far _ a _ b2⟩
end

def deepP (m : Msg) : Int := bif decide (downM m 1 ≤ 64) then downM m 1 else 100
def deepR (m : Msg) : Int := bif decide (deepM m 1 ≤ 64) then deepM m 1 else 100
theorem deep_eq (m : Msg) : deepP m = deepR m := by
  unfold deepP deepR
  rcases like_M m 1 (by omega) (by omega) with ⟨h1, h2⟩ | ⟨h1, h2⟩
  · rw [h2]
  · rw [decide_eq_false (show ¬ downM m 1 ≤ 64 by omega), decide_eq_false (show ¬ deepM m 1 ≤ 64 by omega)]
    rfl

/-! ### Alike -/
mutual
def eqM : Msg → Msg → Bool
  | .mk _ s _ u, .mk _ s' _ u' => (u == u') && eqS s s'
def eqS : List Slot → List Slot → Bool
  | [], [] => true
  | x :: r, y :: r' => eqSl x y && eqS r r'
  | _, _ => false
def eqSl : Slot → Slot → Bool
  | .mk n _ v, .mk n' _ v' => (n == n') && eqVs v v'
def eqVs : List Val → List Val → Bool
  | [], [] => true
  | x :: r, y :: r' => eqVl x y && eqVs r r'
  | _, _ => false
def eqVl : Val → Val → Bool
  | .mk n _ b m, .mk n' _ b' m' => (n == n') && (b == b') && eqM m m'
end
end Go.Proofs.YtiipaliigpkfhaaGreat.Ab
