/- Part 24: an evaluator that goes both ways where a truth is not known: its answer is a tree. -/
import Derived.Test.YtiipaliigpkfhaaGreatD5
set_option linter.unusedVariables false
set_option linter.unusedSimpArgs false
set_option maxRecDepth 100000
namespace Go.Proofs.YtiipaliigpkfhaaGreat.Ab
open Go Go.RowKit

inductive Tree (α : Type) where
  | leaf (a : α)
  | bad
  | br (b : Bool) (t f : Tree α)

namespace Tree
variable {α β : Type}
def sel : Tree α → Option α
  | .leaf a => some a
  | .bad => none
  | .br b t f => bif b then t.sel else f.sel
def bind : Tree α → (α → Tree β) → Tree β
  | .leaf a, k => k a
  | .bad, _ => .bad
  | .br b t f, k => .br b (t.bind k) (f.bind k)
/-- What it comes to, seen through a glass. -/
def via (g : α → β) : Tree α → Option β
  | .leaf a => some (g a)
  | .bad => none
  | .br b t f => bif b then t.via g else f.via g
def opt (e : Option α) (d : α) : Tree α := .br e.isSome (.leaf (e.getD d)) .bad

theorem sel_bind (t : Tree α) (k : α → Tree β) : (t.bind k).sel = t.sel.bind fun a => (k a).sel := by
  induction t with
  | leaf a => rfl
  | bad => rfl
  | br b t f h1 h2 => cases b <;> simp [bind, sel, h1, h2]
theorem via_eq (g : α → β) (t : Tree α) : t.via g = t.sel.map g := by
  induction t with
  | leaf a => rfl
  | bad => rfl
  | br b t f h1 h2 => cases b <;> simp [via, sel, h1, h2]
theorem opt_sel {e : Option α} {d r : α} (h : (opt e d).sel = some r) : e = some r := by
  cases e with
  | none => simp [opt, sel] at h
  | some x => simpa [opt, sel] using h
end Tree

abbrev StepR := AV × AHeap × Bool × Rd × List Nat

def wantedT (ops : Array Oper) (T : List AV) (o : Oper) : Tree Bool :=
  match o.guard with
  | none => .leaf true
  | some (j, want) => match yieldedA ops T j with
    | none => .bad
    | some none => .leaf false
    | some (some b) => .br b (.leaf want) (.leaf (!want))

theorem wantedT_sel {ops : Array Oper} {T : List AV} {o : Oper} : (wantedT ops T o).sel = wantedA ops T o := by
  unfold wantedT wantedA
  cases o.guard with
  | none => rfl
  | some g =>
    obtain ⟨j, want⟩ := g
    dsimp only
    cases yieldedA ops T j with
    | none => rfl
    | some y =>
      cases y with
      | none => rfl
      | some b => cases b <;> cases want <;> rfl

def sc1 (x : AV) (H : AHeap) : StepR := (x, H, true, rd0, [])

/-- Operations that may hang on what is not known. -/
def specT (P : Program) (o : Oper) (T : List AV) (H : AHeap) : Option (Tree StepR) :=
  match o.op with
  | .pick c a b => match opdA T c with
    | .sc (.bool t) => some (.br t (.leaf (sc1 (opdA T a) H)) (.leaf (sc1 (opdA T b) H)))
    | _ => none
  | .indexAddr t p q => match pureEval P (underlying t), opdA T p, opdA T q with
    | some (.slice e), .rsl _ sz n el _, .sc (.int _ i) => if pureEval P (Go.sizeOf e) = some sz then some (.br (decide (0 ≤ i ∧ i < n)) (.leaf (sc1 (.rptr (el i.toNat)) H)) .bad) else none
    | _, _, _ => none
  | .slice t p lo hi mx => match pureEval P (underlying t), opdA T p with
    | some (.slice e), .rsl nl sz n el _ =>
      match optInt T lo, optInt T hi, optInt T mx with
      | some l, some h, some none =>
        if pureEval P (Go.sizeOf e) = some sz then some (.br (decide (0 ≤ l.getD 0 ∧ l.getD 0 ≤ h.getD n ∧ h.getD n ≤ n)) (.leaf (sc1 (.rsl nl sz ((h.getD n).toNat - (l.getD 0).toNat) (fun i => el (i + (l.getD 0).toNat)) .non) H)) .bad) else none
      | some l, some (some h), some (some m) =>
        if pureEval P (Go.sizeOf e) = some sz then some (.br (decide (0 ≤ l.getD 0 ∧ l.getD 0 ≤ h ∧ h = m ∧ m ≤ n)) (.leaf (sc1 (.rsl nl sz (h.toNat - (l.getD 0).toNat) (fun i => el (i + (l.getD 0).toNat)) .tight) H)) .bad) else none
      | _, _, _ => none
    | some .string, .sc (.string s) =>
      match optInt T lo, optInt T hi, optInt T mx with
      | some l, some h, some none => some (.br (decide (0 ≤ l.getD 0 ∧ l.getD 0 ≤ h.getD s.size ∧ h.getD s.size ≤ s.size)) (.leaf (sc1 (.sc (.string (s.extract (l.getD 0).toNat (h.getD s.size).toNat))) H)) .bad)
      | _, _, _ => none
    | _, _ => none
  | _ => none

theorem specT_ok {P : Program} {o : Oper} {T : List AV} {H : AHeap} {t : Tree StepR} {r : StepR} (h : specT P o T H = some t) (hr : t.sel = some r) : ∃ x, stepS P o T H = some x ∧ r = sc1 x H ∧ rdOf o T = rd0 := by
  unfold specT at h
  split at h
  · rename_i c a b ho
    split at h
    · rename_i tt hc
      cases h
      refine ⟨if tt then opdA T a else opdA T b, by unfold stepS; rw [ho]; simp only [hc], ?_, by unfold rdOf readL; rw [ho]; rfl⟩
      cases tt <;> simp [Tree.sel] at hr <;> exact hr.symm
    · cases h
  · rename_i t p q ho
    split at h
    · rename_i e nl sz n el own k i hu hp hq
      split at h
      · rename_i hs
        cases h
        cases hd : decide (0 ≤ i ∧ i < (n : Int)) with
        | false => rw [hd] at hr; simp [Tree.sel] at hr
        | true =>
          rw [hd] at hr
          simp only [Tree.sel, cond_true, Option.some.injEq] at hr
          have := of_decide_eq_true hd
          refine ⟨_, ?_, hr.symm, by unfold rdOf readL; rw [ho]; rfl⟩
          unfold stepS
          rw [ho]
          simp only [hu, hp, hq]
          rw [if_pos ⟨hs, this.1, this.2⟩]
      · cases h
    · cases h
  · rename_i t p lo hi mx ho
    split at h
    · rename_i e nl sz n el own hu hp
      split at h
      · rename_i l h' hl hh hm
        split at h
        · rename_i hs
          cases h
          cases hd : decide (0 ≤ l.getD 0 ∧ l.getD 0 ≤ h'.getD n ∧ h'.getD n ≤ n) with
          | false => rw [hd] at hr; simp [Tree.sel] at hr
          | true =>
            rw [hd] at hr
            simp only [Tree.sel, cond_true, Option.some.injEq] at hr
            have := of_decide_eq_true hd
            refine ⟨_, ?_, hr.symm, by unfold rdOf readL; rw [ho]; rfl⟩
            unfold stepS
            rw [ho]
            simp only [hu, hp, hl, hh, hm]
            rw [if_pos ⟨hs, this⟩]
        · cases h
      · rename_i l h' m hl hh hm
        split at h
        · rename_i hs
          cases h
          cases hd : decide (0 ≤ l.getD 0 ∧ l.getD 0 ≤ h' ∧ h' = m ∧ m ≤ (n : Int)) with
          | false => rw [hd] at hr; simp [Tree.sel] at hr
          | true =>
            rw [hd] at hr
            simp only [Tree.sel, cond_true, Option.some.injEq] at hr
            have := of_decide_eq_true hd
            refine ⟨_, ?_, hr.symm, by unfold rdOf readL; rw [ho]; rfl⟩
            unfold stepS
            rw [ho]
            simp only [hu, hp, hl, hh, hm]
            rw [if_pos ⟨hs, this⟩]
        · cases h
      · cases h
    · rename_i s hu hp
      split at h
      · rename_i l h' hl hh hm
        cases h
        cases hd : decide (0 ≤ l.getD 0 ∧ l.getD 0 ≤ h'.getD s.size ∧ h'.getD s.size ≤ (s.size : Int)) with
        | false => rw [hd] at hr; simp [Tree.sel] at hr
        | true =>
          rw [hd] at hr
          simp only [Tree.sel, cond_true, Option.some.injEq] at hr
          have := of_decide_eq_true hd
          refine ⟨_, ?_, hr.symm, by unfold rdOf readL; rw [ho]; rfl⟩
          unfold stepS
          rw [ho]
          simp only [hu, hp, hl, hh, hm]
          rw [if_pos this]
      · cases h
    · cases h
  · cases h

/-- Appending what may be empty; strings as bytes, bytes as strings. -/
def specX (P : Program) (o : Oper) (T : List AV) (H : AHeap) : Option (Tree (AV × AHeap × List Nat)) :=
  match o.op with
  | .convert src dst p => match pureEval P (underlying src), pureEval P (underlying dst), opdA T p with
    | some .string, some (.slice e), .sc (.string s) => if isU8 P e = true then some (.br (decide (s.size < 2 ^ 62)) (.leaf (.rsl false 1 s.size (strEl s) .non, H, [])) .bad) else none
    | some (.slice e), some .string, .rsl nl sz n el own => if isU8 P e = true ∧ sz = 1 then some ((Tree.opt (bytesL n el) []).bind fun ns => .leaf (.sc (.string (strB ns)), H, [])) else none
    | _, _, _ => none
  | .call c => match c.callee with
    | .builtin .append => match c.args.toList, appT P c with
      | [p, q], some (sz, bytes) =>
        match opdA T p, srcA sz (opdA T q) with
        | .rsl nl sz' n el own, some (m, el2) =>
          some (.br (decide (m = 0)) (.leaf (.rsl nl sz' n el own, H, []))
            (.br (decide ((n + m) * bytes ≤ 2 ^ 46 ∧ n + m < 2 ^ 62))
              (match own with
              | .tok t => match H[t]? with
                | some (.tail n' sz2) => if sz2 = sz ∧ sz' = sz then .br (decide (n' = n)) (.leaf (.rsl false sz (n + m) (catEl n el el2) (.tok t), H.set t (.tail (n + m) sz), [t])) .bad else .bad
                | _ => .bad
              | .tight => if sz' = sz then .leaf (.rsl false sz (n + m) (catEl n el el2) (.tok H.length), H ++ [.tail (n + m) sz], []) else .br (decide (n = 0)) (.leaf (.rsl false sz (n + m) (catEl n el el2) (.tok H.length), H ++ [.tail (n + m) sz], [])) .bad
              | .non => .br nl (if sz' = sz then .leaf (.rsl false sz (n + m) (catEl n el el2) (.tok H.length), H ++ [.tail (n + m) sz], []) else .br (decide (n = 0)) (.leaf (.rsl false sz (n + m) (catEl n el el2) (.tok H.length), H ++ [.tail (n + m) sz], [])) .bad) .bad)
              .bad))
        | _, _ => none
      | _, _ => none
    | _ => none
  | _ => none

theorem Tree.sel_br {α : Type} {b : Bool} {t f : Tree α} {r : α} (h : (Tree.br b t f).sel = some r) : (b = true ∧ t.sel = some r) ∨ (b = false ∧ f.sel = some r) := by
  cases b with
  | true => exact .inl ⟨rfl, h⟩
  | false => exact .inr ⟨rfl, h⟩
theorem Tree.sel_leaf {α : Type} {a r : α} (h : (Tree.leaf a).sel = some r) : r = a := by
  simp only [Tree.sel, Option.some.injEq] at h; exact h.symm
theorem Tree.sel_bad {α : Type} {r : α} (h : (Tree.bad : Tree α).sel = some r) : False := by
  simp [Tree.sel] at h

theorem specX_ok {P : Program} {o : Oper} {T : List AV} {H : AHeap} {t : Tree (AV × AHeap × List Nat)} {r : AV × AHeap × List Nat} (h : specX P o T H = some t) (hr : t.sel = some r) : OpA P o T H r.1 r.2.1 r.2.2 ∧ Keeps H r.2.1 r.2.2 := by
  have viaX : stepX P o T H = some r → OpA P o T H r.1 r.2.1 r.2.2 ∧ Keeps H r.2.1 r.2.2 := fun h => ⟨stepX_sound h, stepX_keeps h⟩
  have viaM : stepM P o T H = some r → OpA P o T H r.1 r.2.1 r.2.2 ∧ Keeps H r.2.1 r.2.2 := fun h => stepM_sound h
  unfold specX at h
  split at h
  · rename_i src dst p ho
    split at h
    · rename_i e s hu1 hu2 hp
      split at h
      · rename_i h8
        cases h
        rcases Tree.sel_br hr with ⟨hd, hr⟩ | ⟨_, hr⟩
        · obtain rfl := Tree.sel_leaf hr
          refine viaX ?_
          unfold stepX
          rw [ho]
          simp only [hu1, hu2, hp]
          rw [if_pos ⟨h8, of_decide_eq_true hd⟩]
        · exact (Tree.sel_bad hr).elim
      · cases h
    · rename_i e nl sz n el own hu1 hu2 hp
      split at h
      · rename_i h8
        cases h
        rw [Tree.sel_bind] at hr
        cases hb : (Tree.opt (bytesL n el) []).sel with
        | none => rw [hb] at hr; cases hr
        | some ns =>
          rw [hb] at hr
          simp only [Option.bind_some] at hr
          obtain rfl := Tree.sel_leaf hr
          refine viaM ?_
          unfold stepM
          rw [ho]
          simp only [hu1, hu2, hp]
          rw [if_pos ⟨h8.1, .inl h8.2⟩, Tree.opt_sel hb]
      · cases h
    · cases h
  · rename_i c ho
    split at h
    · rename_i hcal
      split at h
      · rename_i p q sz bytes hargs hT
        split at h
        · rename_i nl sz' n el own m el2 hp hq
          cases h
          have hX : ∀ r, appX P c T H = some r → stepX P o T H = some r := fun r h => by
            unfold stepX
            rw [ho]
            simp only [hcal]
            exact h
          refine viaX (hX _ ?_)
          unfold appX
          simp only [hargs, hT, hp, hq]
          rcases Tree.sel_br hr with ⟨hd, hr⟩ | ⟨hd, hr⟩
          · rw [if_pos (of_decide_eq_true hd), Tree.sel_leaf hr]
          · rw [if_neg (of_decide_eq_false hd)]
            rcases Tree.sel_br hr with ⟨hd2, hr⟩ | ⟨hd2, hr⟩
            · rw [if_pos (of_decide_eq_true hd2)]
              split at hr
              · rename_i t
                split at hr
                · rename_i n' sz2 hH
                  split at hr
                  · rename_i hs
                    rcases Tree.sel_br hr with ⟨hd3, hr⟩ | ⟨hd3, hr⟩
                    · simp only [hH]
                      rw [if_pos ⟨of_decide_eq_true hd3, hs⟩, Tree.sel_leaf hr]
                    · exact (Tree.sel_bad hr).elim
                  · exact (Tree.sel_bad hr).elim
                · exact (Tree.sel_bad hr).elim
              · split at hr
                · rename_i hs
                  simp only
                  rw [if_pos (.inr hs), Tree.sel_leaf hr]
                · rcases Tree.sel_br hr with ⟨hd3, hr⟩ | ⟨hd3, hr⟩
                  · simp only
                    rw [if_pos (.inl (of_decide_eq_true hd3)), Tree.sel_leaf hr]
                  · exact (Tree.sel_bad hr).elim
              · rcases Tree.sel_br hr with ⟨hnl, hr⟩ | ⟨_, hr⟩
                · split at hr
                  · rename_i hs
                    simp only
                    rw [if_pos ⟨hnl, .inr hs⟩, Tree.sel_leaf hr]
                  · rcases Tree.sel_br hr with ⟨hd3, hr⟩ | ⟨hd3, hr⟩
                    · simp only
                      rw [if_pos ⟨hnl, .inl (of_decide_eq_true hd3)⟩, Tree.sel_leaf hr]
                    · exact (Tree.sel_bad hr).elim
                · exact (Tree.sel_bad hr).elim
            · exact (Tree.sel_bad hr).elim
        · cases h
      · cases h
    · cases h
  · cases h

abbrev CallT := FuncId → List AV → AHeap → Tree (AV × AHeap × List Nat)
abbrev SiteO := Nat → FuncId → List AV → AHeap → Option (Tree (AV × AHeap × List Nat))

def act1 (r : AV × AHeap × List Nat) : Tree StepR := .leaf (r.1, r.2.1, false, rd0, r.2.2)

def stepT (P : Program) (call : CallT) (si : SiteO) (nx : Option Nat) (o : Oper) (T : List AV) (H : AHeap) : Tree StepR :=
  match quietF P o T H nx with
  | some q => .leaf (q.1, H, true, q.2, [])
  | none => match specT P o T H with
    | some t => t
    | none => match specX P o T H with
      | some t => t.bind act1
      | none => match step1 P o T H with
        | some r => .leaf r
        | none => match stepM P o T H with
          | some r => .leaf (r.1, r.2.1, false, rdS (softOf o T), r.2.2)
          | none => match calleeA o T with
            | some (g, args) => match si (o.dst.getD 0) g args H with
              | some t => t.bind act1
              | none => (call g args H).bind act1
            | none => .bad

def StepOk (P : Program) (nx : Option Nat) (o : Oper) (T : List AV) (H : AHeap) (r : StepR) : Prop :=
  (∃ x rd, r = (x, H, true, rd, []) ∧ (∀ H2 : AHeap, (∀ l ∈ rd.labs, H2[l]? = H[l]? ∨ ∃ t k ob, rd.soft = some (l, t, k) ∧ (H[l]?).bind (entryObj P t k) = some ob ∧ H2[l]? = some ob) → OpF P o T H2 x rd.al) ∧ (nx.isSome = false → rd.al = none)) ∨
  (∃ x H1 Wr sf, r = (x, H1, false, rdS sf, Wr) ∧ OpA P o T H x H1 Wr ∧ Keeps H H1 Wr ∧ ∀ l t k, sf = some (l, t, k) → ∃ ob, (H[l]?).bind (entryObj P t k) = some ob ∧ H1[l]? = some ob)

def SiteOk (P : Program) (si : SiteO) : Prop := ∀ (d : Nat) (g : FuncId) (args : List AV) (H : AHeap) (t : Tree (AV × AHeap × List Nat)) (r : AV × AHeap × List Nat), si d g args H = some t → t.sel = some r → Ctr P g args r.1 H r.2.1 r.2.2
def CallTOk (P : Program) (call : CallT) : Prop := ∀ (g : FuncId) (args : List AV) (H : AHeap) (r : AV × AHeap × List Nat), (call g args H).sel = some r → Ctr P g args r.1 H r.2.1 r.2.2

theorem act1_ok {P : Program} {o : Oper} {T : List AV} {H : AHeap} {q : AV × AHeap × List Nat} {r : StepR} (h : OpA P o T H q.1 q.2.1 q.2.2 ∧ Keeps H q.2.1 q.2.2) {nx : Option Nat} (hr : (act1 q).sel = some r) : StepOk P nx o T H r := by
  rw [Tree.sel_leaf hr]
  exact .inr ⟨_, _, _, none, rfl, h.1, h.2, fun l t k e => by cases e⟩

theorem bind_act1 {t : Tree (AV × AHeap × List Nat)} {r : StepR} (hr : (t.bind act1).sel = some r) : ∃ q, t.sel = some q ∧ (act1 q).sel = some r := by
  rw [Tree.sel_bind] at hr
  cases hq : t.sel with
  | none => rw [hq] at hr; cases hr
  | some q => rw [hq] at hr; exact ⟨q, rfl, hr⟩

theorem stepT_ok {P : Program} {call : CallT} {si : SiteO} (hc : CallTOk P call) (hs : SiteOk P si) {nx : Option Nat} {o : Oper} {T : List AV} {H : AHeap} {r : StepR} (h : (stepT P call si nx o T H).sel = some r) : StepOk P nx o T H r := by
  unfold stepT at h
  split at h
  · rename_i q hq
    rw [Tree.sel_leaf h]
    obtain ⟨hf, hn⟩ := quietF_ok (x := q.1) (rd := q.2) hq
    exact .inl ⟨_, _, rfl, hf, fun e => by rw [hn] at e; cases e⟩
  · split at h
    · rename_i t ht
      obtain ⟨x, hx, rfl, hl⟩ := specT_ok ht h
      exact .inl ⟨x, rd0, rfl, hl ▸ stepS_float hx, fun _ => rfl⟩
    · split at h
      · rename_i t ht
        obtain ⟨q, hq, hr⟩ := bind_act1 h
        exact act1_ok (specX_ok ht hq) hr
      · split at h
        · rename_i q hq
          rw [Tree.sel_leaf h]
          unfold step1 at hq
          split at hq
          · rename_i y hy; cases hq; exact .inl ⟨y, _, rfl, stepS_float hy, fun _ => rfl⟩
          · split at hq
            · rename_i y H3 Wr hx; cases hq; exact .inr ⟨_, _, _, none, rfl, stepX_sound hx, stepX_keeps hx, fun l t k e => by cases e⟩
            · cases hq
        · split at h
          · rename_i q hq; rw [Tree.sel_leaf h]; exact .inr ⟨_, _, _, _, rfl, (stepM_sound hq).1, (stepM_sound hq).2, stepM_soft hq⟩
          · split at h
            · rename_i g args hg
              split at h
              · rename_i t ht
                obtain ⟨q, hq, hr⟩ := bind_act1 h
                have hctr := hs _ _ _ _ _ _ ht hq
                exact act1_ok ⟨opA_callee hg hctr, hctr.2.2⟩ hr
              · obtain ⟨q, hq, hr⟩ := bind_act1 h
                have hctr := hc _ _ _ _ hq
                exact act1_ok ⟨opA_callee hg hctr, hctr.2.2⟩ hr
            · exact (Tree.sel_bad h).elim

/-- Once a truth is asked it is known. -/
def litT (T : List AV) (t : Nat) (v : Bool) : List AV := T.set t (.sc (.bool v))

theorem litT_eq {T : List AV} {t : Nat} {b : Bool} (h : T[t]? = some (.sc (.bool b))) : litT T t b = T := by
  unfold litT
  refine List.ext_getElem? (fun i => ?_)
  by_cases hi : t = i
  · subst hi
    rw [List.getElem?_set_self (List.getElem?_eq_some_iff.1 h).1, h]
  · rw [List.getElem?_set_ne hi]

/-- The truth that a guard asks. -/
def askG (ops : Array Oper) (T : List AV) (o : Oper) : Option (Bool × Nat) :=
  match o.guard with
  | none => none
  | some (j, _) => match (ops[j]?).bind (·.dst) with
    | none => none
    | some d => match T[d]? with
      | some (.sc (.bool b)) => some (b, d)
      | _ => none

theorem askG_get {ops : Array Oper} {T : List AV} {o : Oper} {b : Bool} {d : Nat} (h : askG ops T o = some (b, d)) : T[d]? = some (.sc (.bool b)) := by
  unfold askG at h
  split at h
  · cases h
  · split at h
    · cases h
    · split at h
      · rename_i hd; cases h; exact hd
      · cases h

/-- Both ways, each knowing which. -/
def askB {α : Type} (q : Option (Bool × Nat)) (T : List AV) (k : List AV → Tree α) : Tree α :=
  match q with
  | some (b, d) => .br b (k (litT T d true)) (k (litT T d false))
  | none => k T

theorem askB_sel {α : Type} {q : Option (Bool × Nat)} {T : List AV} {k : List AV → Tree α} {r : α} (hq : ∀ b d, q = some (b, d) → T[d]? = some (.sc (.bool b))) (h : (askB q T k).sel = some r) : (k T).sel = some r := by
  unfold askB at h
  split at h
  · rename_i b d
    have := litT_eq (hq b d rfl)
    rcases Tree.sel_br h with ⟨rfl, h⟩ | ⟨rfl, h⟩
    · rwa [this] at h
    · rwa [this] at h
  · exact h

def askC (T : List AV) (c : Operand) : Option (Bool × Nat) :=
  match c with
  | .tmp t => match T[t]? with
    | some (.sc (.bool b)) => some (b, t)
    | _ => none
  | _ => none

theorem askC_get {T : List AV} {c : Operand} {b : Bool} {d : Nat} (h : askC T c = some (b, d)) : T[d]? = some (.sc (.bool b)) := by
  unfold askC at h
  split at h
  · split at h
    · rename_i hd; cases h; exact hd
    · cases h
  · cases h

def evRT (P : Program) (call : CallT) (si : SiteO) (ops : Array Oper) : List Oper → Option Nat → List AV → AHeap → Tree (List AV × AHeap × Log)
  | [], _, T, H => .leaf (T, H, [])
  | o :: r, nx, T, H => askB (askG ops T o) T fun T => (wantedT ops T o).bind fun
    | false => (evRT P call si ops r (nextL o nx) (putA T o.dst skipA) H).bind fun q => .leaf (q.1, q.2.1, e0 :: q.2.2)
    | true => (stepT P call si nx o T H).bind fun e => (evRT P call si ops r (nextL o nx) (putA T o.dst e.1) e.2.1).bind fun q => .leaf (q.1, q.2.1, e.2.2 :: q.2.2)

theorem sel_bind_some {α β : Type} {t : Tree α} {k : α → Tree β} {r : β} (h : (t.bind k).sel = some r) : ∃ a, t.sel = some a ∧ (k a).sel = some r := by
  rw [Tree.sel_bind] at h
  cases ha : t.sel with
  | none => rw [ha] at h; cases h
  | some a => rw [ha] at h; exact ⟨a, rfl, h⟩

theorem evRT_chain {P : Program} {call : CallT} {si : SiteO} (hc : CallTOk P call) (hsi : SiteOk P si) {ops : Array Oper} : ∀ (r : List Oper) (k : Nat) (nx : Option Nat) (T : List AV) (H : AHeap) (T' : List AV) (H' : AHeap) (L : Log), (∀ (j : Nat) (o : Oper), r[j]? = some o → ops[k + j]? = some o) → (evRT P call si ops r nx T H).sel = some (T', H', L) →
    Chain P ops nx.isSome (entryObj P) ((List.range r.length).map (k + ·)) T H T' H' L ∧ Keeps H H' (wrs L)
  | [], k, nx, T, H, T', H', L, _, h => by
    have := Tree.sel_leaf h
    simp only [Prod.mk.injEq] at this
    obtain ⟨rfl, rfl, rfl⟩ := this
    exact ⟨.nil _ _, .refl _ _⟩
  | o :: r, k, nx, T, H, T', H', L, ho, h => by
    have ho0 : ops[k]? = some o := ho 0 o rfl
    have hor : ∀ (j : Nat) (q : Oper), r[j]? = some q → ops[k + 1 + j]? = some q := fun j q hq => by
      have := ho (j + 1) q (by simpa using hq)
      rw [show k + 1 + j = k + (j + 1) by omega]; exact this
    have hr : (List.range (o :: r).length).map (k + ·) = k :: (List.range r.length).map (k + 1 + ·) := by
      rw [List.length_cons, List.range_succ_eq_map]
      simp only [List.map_cons, List.map_map, Nat.add_zero]
      congr 1
      refine List.map_congr_left (fun a _ => ?_)
      simp only [Function.comp]
      omega
    rw [hr]
    unfold evRT at h
    have h := askB_sel (fun b d => askG_get) h
    obtain ⟨w, hw, h⟩ := sel_bind_some h
    rw [wantedT_sel] at hw
    cases w with
    | false =>
      obtain ⟨⟨T2, H2, L2⟩, hq, h⟩ := sel_bind_some h
      have := Tree.sel_leaf h
      simp only [Prod.mk.injEq] at this
      obtain ⟨rfl, rfl, rfl⟩ := this
      obtain ⟨h1, h2⟩ := evRT_chain hc hsi r (k + 1) _ _ _ _ _ _ hor hq
      rw [nextL_some] at h1
      exact ⟨.skip ho0 hw h1, by simpa [wrs, e0] using h2⟩
    | true =>
      obtain ⟨e, he, h⟩ := sel_bind_some h
      obtain ⟨⟨T2, H2, L2⟩, hq, h⟩ := sel_bind_some h
      have := Tree.sel_leaf h
      simp only [Prod.mk.injEq] at this
      obtain ⟨rfl, rfl, rfl⟩ := this
      obtain ⟨h1, h2⟩ := evRT_chain hc hsi r (k + 1) _ _ _ _ _ _ hor hq
      rw [nextL_some] at h1
      rcases stepT_ok hc hsi he with ⟨x, rd, rfl, hf, hn⟩ | ⟨x, H1, Wr, sf, rfl, hop, hk, hsf⟩
      · exact ⟨.float ho0 hw hf hn h1, by simpa [wrs] using h2⟩
      · exact ⟨.act ho0 hw hop hk hsf h1, hk.trans h2⟩

/-- What is told: of loops; of the calls whose answers go to a place. -/
structure LoopO where
  loop : Code → List AV → AHeap → Option (Tree OutE)
  site : SiteO

def fstReg : Code → Option Nat
  | .region id _ _ => some id
  | .seq a b => match fstReg a with
    | some i => some i
    | none => fstReg b
  | .block _ c => fstReg c
  | .cond _ a b => match fstReg a with
    | some i => some i
    | none => fstReg b
  | .loop c => fstReg c
  | _ => none

def iterT (f : List AV → AHeap → Tree OutE) : Nat → List AV → AHeap → Tree OutE
  | 0, _, _ => .bad
  | k + 1, T, H => (f T H).bind fun r => match r.1 with
    | .normal => (iterT f k r.2.1 r.2.2.1).bind fun q => .leaf (q.1, q.2.1, q.2.2.1, r.2.2.2 ++ q.2.2.2)
    | _ => .leaf r

def evCTb (P : Program) (call : CallT) (lo : LoopO) (sco : Code → List AV → AHeap → Tree OutE) (n : Nat) : Code → List AV → AHeap → Tree OutE
  | .skip, T, H => .leaf (.normal, T, H, [])
  | .label _, T, H => .leaf (.normal, T, H, [])
  | .exit i, T, H => .leaf (.exit i, T, H, [])
  | .goto i, T, H => .leaf (.goto i, T, H, [])
  | .ret, T, H => .leaf (.ret, T, H, [])
  | .seq a b, T, H => (evCTb P call lo sco n a T H).bind fun r => match r.1 with
    | .normal => (evCTb P call lo sco n b r.2.1 r.2.2.1).bind fun q => .leaf (q.1, q.2.1, q.2.2.1, r.2.2.2 ++ q.2.2.2)
    | _ => .leaf r
  | .block i c, T, H => (evCTb P call lo sco n c T H).bind fun r => match r.1 with
    | .exit j => if j = i then .leaf (.normal, r.2) else .leaf r
    | _ => .leaf r
  | .cond c a b, T, H => askB (askC T c) T fun T => match opdA T c with
    | .sc (.bool t) => .br t (evCTb P call lo sco n a T H) (evCTb P call lo sco n b T H)
    | _ => .bad
  | .region id ops false, T, H => (evRT P call lo.site ops ops.toList none T H).bind fun q => .leaf (.normal, q.1, q.2.1, wrs q.2.2)
  | .region id ops true, T, H => (evRT P call lo.site ops ops.toList (some H.length) T (H ++ resv P ops.toList)).bind fun q => if drawOk ops H.length (H ++ resv P ops.toList).length q.2.2 = true then .leaf (.normal, q.1, q.2.1, wrs q.2.2) else .bad
  | .loop c, T, H => match lo.loop c T H with
    | some t => t
    | none => iterT (evCTb P call lo sco n c) n T H
  | .rangeFunc _ _ _ _, _, _ => .bad
  | .scope c, T, H => sco c T H
  | .refuse _, _, _ => .bad

/-- From label to label. -/
def passT (f : Code → List AV → AHeap → Tree OutE) (c : Code) : Nat → Code → List AV → AHeap → Tree OutE
  | 0, _, _, _ => .bad
  | k + 1, d, T, H => (f d T H).bind fun r => match r.1 with
    | .goto l => match findLabel c l with
      | some rest => (passT f c k rest r.2.1 r.2.2.1).bind fun q => .leaf (q.1, q.2.1, q.2.2.1, r.2.2.2 ++ q.2.2.2)
      | none => .bad
    | _ => .leaf r

def evCT (P : Program) (call : CallT) (lo : LoopO) : Nat → Code → List AV → AHeap → Tree OutE
  | 0 => evCTb P call lo (fun _ _ _ => .bad) 0
  | n + 1 => evCTb P call lo (fun c T H => passT (evCT P call lo n) c n c T H) (n + 1)

/-- What is told of loops beforehand. -/
structure LoopsOk (P : Program) (lo : LoopO) : Prop where
  loop : ∀ c T H t x T' H' Wr, lo.loop c T H = some t → t.sel = some (x, T', H', Wr) → CodeOk P (.loop c) T H x T' H' Wr
  site : SiteOk P lo.site

def noLoop : LoopO := ⟨fun _ _ _ => none, fun _ _ _ _ => none⟩
theorem noSite_ok {P : Program} : SiteOk P (fun _ _ _ _ => none) := fun _ _ _ _ _ _ h => by cases h
theorem noLoop_ok {P : Program} : LoopsOk P noLoop := ⟨fun _ _ _ _ _ _ _ _ h => (by cases h), noSite_ok⟩

theorem iterT_ok {P : Program} {c : Code} {f : List AV → AHeap → Tree OutE} (hf : ∀ T H x T' H' Wr, (f T H).sel = some (x, T', H', Wr) → CodeOk P c T H x T' H' Wr) (k : Nat) (T : List AV) (H : AHeap) (x : AExit) (T' : List AV) (H' : AHeap) (Wr : List Nat) (h : (iterT f k T H).sel = some (x, T', H', Wr)) : CodeOk P (.loop c) T H x T' H' Wr := by
  let g : List AV → AHeap → Ev OutE := fun T H => match (f T H).sel with
    | some r => .ok r
    | none => .bad []
  have hg : ∀ T H x T' H' Wr, g T H = .ok (x, T', H', Wr) → CodeOk P c T H x T' H' Wr := by
    intro T H x T' H' Wr h
    simp only [g] at h
    split at h
    · rename_i r hr; cases h; exact hf _ _ _ _ _ _ hr
    · cases h
  refine iterE_ok hg k T H x T' H' Wr ?_
  have key : ∀ (k : Nat) (T : List AV) (H : AHeap) (r : OutE), (iterT f k T H).sel = some r → iterE g k T H = .ok r := by
    intro k
    induction k with
    | zero => intro T H r h; exact (Tree.sel_bad h).elim
    | succ k ih =>
      intro T H r h
      unfold iterT at h
      obtain ⟨⟨y, T1, H1, W1⟩, h1, h⟩ := sel_bind_some h
      have hg1 : g T H = .ok (y, T1, H1, W1) := by simp only [g, h1]
      unfold iterE
      rw [hg1]
      cases y with
      | normal =>
        obtain ⟨⟨z, T2, H2, W2⟩, h2, h⟩ := sel_bind_some h
        rw [Tree.sel_leaf h]
        simp only [ih _ _ _ h2]
      | _ => rw [Tree.sel_leaf h]
  exact key k T H _ h

theorem evCTb_ok {P : Program} {call : CallT} {lo : LoopO} (hm : P.follows .mixedOrders = true) (hc : CallTOk P call) (hl : LoopsOk P lo) {sco : Code → List AV → AHeap → Tree OutE} (hs : ∀ c T H x T' H' Wr, (sco c T H).sel = some (x, T', H', Wr) → CodeOk P (.scope c) T H x T' H' Wr) (n : Nat) : ∀ (c : Code) (T : List AV) (H : AHeap) (x : AExit) (T' : List AV) (H' : AHeap) (Wr : List Nat), (evCTb P call lo sco n c T H).sel = some (x, T', H', Wr) → CodeOk P c T H x T' H' Wr
  | .skip, T, H, x, T', H', Wr, h => by cases Tree.sel_leaf h; exact ⟨fun _ _ _ _ => wpA_skip ⟨rfl, rfl, rfl⟩, .refl _ _⟩
  | .label _, T, H, x, T', H', Wr, h => by cases Tree.sel_leaf h; exact ⟨fun _ _ _ _ => wpA_label ⟨rfl, rfl, rfl⟩, .refl _ _⟩
  | .exit _, T, H, x, T', H', Wr, h => by cases Tree.sel_leaf h; exact ⟨fun _ _ _ _ => wpA_exit ⟨rfl, rfl, rfl⟩, .refl _ _⟩
  | .goto _, T, H, x, T', H', Wr, h => by cases Tree.sel_leaf h; exact ⟨fun _ _ _ _ => wpA_goto ⟨rfl, rfl, rfl⟩, .refl _ _⟩
  | .ret, T, H, x, T', H', Wr, h => by cases Tree.sel_leaf h; exact ⟨fun _ _ _ _ => wpA_ret ⟨rfl, rfl, rfl⟩, .refl _ _⟩
  | .seq a b, T, H, x, T', H', Wr, h => by
    unfold evCTb at h
    obtain ⟨⟨y, T1, H1, W1⟩, h1, h⟩ := sel_bind_some h
    have ok1 := evCTb_ok hm hc hl hs n a _ _ _ _ _ _ h1
    have other : y ≠ .normal → (x, T', H', Wr) = (y, T1, H1, W1) → CodeOk P (.seq a b) T H x T' H' Wr := by
      intro hne e
      cases e
      refine ⟨fun n0 W hn hw => wpA_seq (ok1.then hn hw ?_), ok1.2⟩
      cases x with
      | normal => exact absurd rfl hne
      | exit i => exact ⟨rfl, rfl, rfl⟩
      | goto i => exact ⟨rfl, rfl, rfl⟩
      | ret => exact ⟨rfl, rfl, rfl⟩
      | panic y => exact ⟨rfl, rfl, rfl⟩
    cases y with
    | normal =>
      obtain ⟨⟨z, T2, H2, W2⟩, h2, h⟩ := sel_bind_some h
      cases Tree.sel_leaf h
      have ok2 := evCTb_ok hm hc hl hs n b _ _ _ _ _ _ h2
      exact ⟨fun n0 W hn hw => wpA_seq (ok1.then hn (fun l hl => hw l (List.mem_append_left _ hl)) (ok2.1 n0 W (Nat.le_trans hn ok1.2.1) (fun l hl => hw l (List.mem_append_right _ hl)))), ok1.2.trans ok2.2⟩
    | exit i => exact other (by simp) (Tree.sel_leaf h)
    | goto i => exact other (by simp) (Tree.sel_leaf h)
    | ret => exact other (by simp) (Tree.sel_leaf h)
    | panic v => exact other (by simp) (Tree.sel_leaf h)
  | .block i c, T, H, x, T', H', Wr, h => by
    unfold evCTb at h
    obtain ⟨⟨y, T1, H1, W1⟩, h1, h⟩ := sel_bind_some h
    have ok1 := evCTb_ok hm hc hl hs n c _ _ _ _ _ _ h1
    have other : (∀ j, y ≠ .exit j) → (x, T', H', Wr) = (y, T1, H1, W1) → CodeOk P (.block i c) T H x T' H' Wr := by
      intro hne e
      cases e
      refine ⟨fun n0 W hn hw => wpA_block (ok1.then hn hw ?_), ok1.2⟩
      cases x with
      | normal => exact ⟨rfl, rfl, rfl⟩
      | exit i => exact absurd rfl (hne _)
      | goto i => exact ⟨rfl, rfl, rfl⟩
      | ret => exact ⟨rfl, rfl, rfl⟩
      | panic y => exact ⟨rfl, rfl, rfl⟩
    cases y with
    | exit j =>
      simp only at h
      split at h
      · rename_i hj
        cases Tree.sel_leaf h
        exact ⟨fun n0 W hn hw => wpA_block (ok1.then hn hw (by simp [AExit.inBlock, hj])), ok1.2⟩
      · rename_i hj
        cases Tree.sel_leaf h
        exact ⟨fun n0 W hn hw => wpA_block (ok1.then hn hw (by simp [AExit.inBlock, hj])), ok1.2⟩
    | normal => exact other (by simp) (Tree.sel_leaf h)
    | goto i => exact other (by simp) (Tree.sel_leaf h)
    | ret => exact other (by simp) (Tree.sel_leaf h)
    | panic v => exact other (by simp) (Tree.sel_leaf h)
  | .cond c a b, T, H, x, T', H', Wr, h => by
    unfold evCTb at h
    have h := askB_sel (fun b d => askC_get) h
    split at h
    · rename_i t ht
      rcases Tree.sel_br h with ⟨rfl, h⟩ | ⟨rfl, h⟩
      · have ok1 := evCTb_ok hm hc hl hs n a _ _ _ _ _ _ h
        exact ⟨fun n0 W hn hw => wpA_cond ht (ok1.1 n0 W hn hw), ok1.2⟩
      · have ok1 := evCTb_ok hm hc hl hs n b _ _ _ _ _ _ h
        exact ⟨fun n0 W hn hw => wpA_cond ht (ok1.1 n0 W hn hw), ok1.2⟩
    · exact (Tree.sel_bad h).elim
  | .region id ops false, T, H, x, T', H', Wr, h => by
    unfold evCTb at h
    obtain ⟨⟨T1, H1, L⟩, h1, h⟩ := sel_bind_some h
    cases Tree.sel_leaf h
    obtain ⟨h2, h3⟩ := evRT_chain hc hl.site ops.toList 0 _ T _ _ _ _ (fun j o hj => by simpa using hj) h1
    have e : (List.range ops.toList.length).map (0 + ·) = List.range ops.size := by simp
    rw [e] at h2
    exact ⟨fun n0 W hn hw => wpA_chain h2 hw ⟨rfl, rfl, rfl⟩, h3⟩
  | .region id ops true, T, H, x, T', H', Wr, h => by
    unfold evCTb at h
    obtain ⟨⟨T1, H1, L⟩, h1, h⟩ := sel_bind_some h
    split at h
    · rename_i hd
      cases Tree.sel_leaf h
      obtain ⟨h2, h3⟩ := evRT_chain hc hl.site ops.toList 0 _ T _ _ _ _ (fun j o hj => by simpa using hj) h1
      have e : (List.range ops.toList.length).map (0 + ·) = List.range ops.size := by simp
      rw [e] at h2
      exact ⟨fun n0 W hn hw => wpA_chain_draw hm (resv_idle P _) h2 hw hd ⟨rfl, rfl, rfl⟩, h3.unres⟩
    · exact (Tree.sel_bad h).elim
  | .loop c, T, H, x, T', H', Wr, h => by
    unfold evCTb at h
    split at h
    · rename_i t ht
      exact hl.loop _ _ _ _ _ _ _ _ ht h
    · exact iterT_ok (fun T H x T' H' Wr h => evCTb_ok hm hc hl hs n c T H x T' H' Wr h) n T H x T' H' Wr h
  | .rangeFunc _ _ _ _, T, H, x, T', H', Wr, h => (Tree.sel_bad h).elim
  | .scope c, T, H, x, T', H', Wr, h => hs _ _ _ _ _ _ _ h
  | .refuse _, T, H, x, T', H', Wr, h => (Tree.sel_bad h).elim

theorem passT_ok {P : Program} {f : Code → List AV → AHeap → Tree OutE} (hf : ∀ d T H x T' H' Wr, (f d T H).sel = some (x, T', H', Wr) → CodeOk P d T H x T' H' Wr) (c : Code) : ∀ (k : Nat) (d : Code) (T : List AV) (H : AHeap) (x : AExit) (T' : List AV) (H' : AHeap) (Wr : List Nat), (passT f c k d T H).sel = some (x, T', H', Wr) → Passes P c x T' H' k d T H Wr
  | 0, d, T, H, x, T', H', Wr, h => (Tree.sel_bad h).elim
  | k + 1, d, T, H, x, T', H', Wr, h => by
    unfold passT at h
    obtain ⟨⟨y, T1, H1, W1⟩, h1, h⟩ := sel_bind_some h
    have other : (∀ l, y ≠ .goto l) → (x, T', H', Wr) = (y, T1, H1, W1) → Passes P c x T' H' (k + 1) d T H Wr := by
      intro hne e
      cases e
      exact .out k (hf _ _ _ _ _ _ _ h1) hne
    cases y with
    | goto l =>
      simp only at h
      split at h
      · rename_i rest hr
        obtain ⟨⟨z, T2, H2, W2⟩, h2, h⟩ := sel_bind_some h
        cases Tree.sel_leaf h
        exact .next (hf _ _ _ _ _ _ _ h1) hr (passT_ok hf c k _ _ _ _ _ _ _ h2)
      · exact (Tree.sel_bad h).elim
    | normal => exact other (by simp) (Tree.sel_leaf h)
    | exit i => exact other (by simp) (Tree.sel_leaf h)
    | ret => exact other (by simp) (Tree.sel_leaf h)
    | panic v => exact other (by simp) (Tree.sel_leaf h)

theorem evCT_ok {P : Program} {call : CallT} {lo : LoopO} (hm : P.follows .mixedOrders = true) (hc : CallTOk P call) (hl : LoopsOk P lo) : ∀ (n : Nat) (c : Code) (T : List AV) (H : AHeap) (x : AExit) (T' : List AV) (H' : AHeap) (Wr : List Nat), (evCT P call lo n c T H).sel = some (x, T', H', Wr) → CodeOk P c T H x T' H' Wr
  | 0 => fun c T H x T' H' Wr h => evCTb_ok hm hc hl (fun _ _ _ _ _ _ _ h => (Tree.sel_bad h).elim) 0 c T H x T' H' Wr h
  | n + 1 => fun c T H x T' H' Wr h => evCTb_ok hm hc hl (fun c T H x T' H' Wr h => (passT_ok (fun d T H x T' H' Wr h => evCT_ok hm hc hl n d T H x T' H' Wr h) c n c T H x T' H' Wr h).ok) (n + 1) c T H x T' H' Wr h
end Go.Proofs.YtiipaliigpkfhaaGreat.Ab
