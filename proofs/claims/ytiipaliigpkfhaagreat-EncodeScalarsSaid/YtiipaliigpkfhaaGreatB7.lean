/- Part 16: what is to be shown of code, as one proposition that simp reckons out. -/
import Derived.Test.YtiipaliigpkfhaaGreatB6
set_option linter.unusedVariables false
set_option linter.unusedSimpArgs false
namespace Go.Proofs.YtiipaliigpkfhaaGreat.Ab
open Go Go.RowKit

/-- Which label an operation reads. -/
def readL (o : Oper) (T : List AV) : Option Nat :=
  match o.op with
  | .load _ p => match opdA T p with
    | .ptr l _ => some l
    | _ => none
  | _ => none

theorem cellsOfA_label {H H2 : AHeap} {x : AV} (h : ∀ l o, x = .ptr l o → H2[l]? = H[l]?) : cellsOfA H2 x = cellsOfA H x := by
  cases x with
  | ptr l o => simp only [cellsOfA, h l o rfl]
  | _ => rfl

theorem stepS_label {P : Program} {o : Oper} {T : List AV} {H H2 : AHeap} (h : ∀ l, readL o T = some l → H2[l]? = H[l]?) : stepS P o T H2 = stepS P o T H := by
  unfold stepS
  cases ho : o.op with
  | load t p =>
    simp only
    rw [cellsOfA_label (fun l o' hx => h l (by unfold readL; rw [ho]; simp only [hx]))]
  | _ => rfl

def Keeps (H H' : AHeap) (Wr : List Nat) : Prop := H.length ≤ H'.length ∧ ∀ l, l < H.length → l ∉ Wr → H'[l]? = H[l]?

theorem Keeps.refl (H : AHeap) (Wr : List Nat) : Keeps H H Wr := ⟨Nat.le_refl _, fun _ _ _ => rfl⟩
theorem Keeps.push (H : AHeap) (o : AObj) : Keeps H (H ++ [o]) [] := ⟨by simp, fun l hl _ => List.getElem?_append_left hl⟩
theorem Keeps.set (H : AHeap) (l : Nat) (o : AObj) : Keeps H (H.set l o) [l] := ⟨by simp, fun k _ hm => List.getElem?_set_ne (fun e => hm (by simp [e]))⟩

theorem stepX_keeps {P : Program} {o : Oper} {T : List AV} {H H' : AHeap} {x : AV} {Wr : List Nat} (h : stepX P o T H = some (x, H', Wr)) : Keeps H H' Wr := by
  unfold stepX at h
  split at h
  · split at h
    · cases h; exact .push _ _
    · cases h
  · split at h
    · split at h
      · cases h; exact .push _ _
      · cases h
    · cases h
  · split at h
    · split at h
      · split at h
        · cases h; exact .set _ _ _
        · cases h
      · cases h
    · cases h
  · split at h
    · split at h
      · split at h
        · split at h
          · cases h; exact .refl _ _
          · cases h
        · cases h
      · cases h
    · cases h
  · split at h
    · split at h
      · cases h; exact .refl _ _
      · cases h
    · cases h
  · split at h
    · unfold appX at h
      split at h
      · split at h
        · split at h
          · cases h; exact .refl _ _
          · split at h
            · split at h
              · split at h
                · split at h
                  · cases h; exact .set _ _ _
                  · cases h
                · cases h
              · split at h
                · cases h; exact .push _ _
                · cases h
              · split at h
                · cases h; exact .push _ _
                · cases h
            · cases h
        · cases h
      · cases h
    · cases h
  · split at h
    · split at h
      · split at h
        · cases h; exact .push _ _
        · cases h
      · cases h
    · cases h
  · cases h

/-- A map's entry that is told softly: the map's label, its type, the key. -/
abbrev Soft := Option (Nat × TypeId × Value)
/-- What an operation looks at: labels; the label that was kept for it; the entry that it looks at or makes sure of. -/
structure Rd where
  labs : List Nat
  al : Option Nat
  soft : Soft
abbrev Log := List (Bool × Rd × List Nat)
def rd0 : Rd := ⟨[], none, none⟩
def rdS (s : Soft) : Rd := ⟨[], none, s⟩
def rdOf (o : Oper) (T : List AV) : Rd := ⟨(readL o T).toList, none, none⟩
/-- What stands where nothing stands. -/
def e0 : Bool × Rd × List Nat := (true, rd0, [])
/-- What making sure of an entry makes of a map. -/
abbrev Tr := TypeId → Value → AObj → Option AObj

inductive Chain (P : Program) (ops : Array Oper) (dr : Bool) (tr : Tr) : List Nat → List AV → AHeap → List AV → AHeap → Log → Prop where
  | nil (T : List AV) (H : AHeap) : Chain P ops dr tr [] T H T H []
  | skip {i : Nat} {rest : List Nat} {o : Oper} {T T' : List AV} {H H' : AHeap} {L : Log} (ho : ops[i]? = some o) (hw : wantedA ops T o = some false)
      (hr : Chain P ops dr tr rest (putA T o.dst skipA) H T' H' L) : Chain P ops dr tr (i :: rest) T H T' H' (e0 :: L)
  | float {i : Nat} {rest : List Nat} {o : Oper} {x : AV} {T T' : List AV} {H H' : AHeap} {L : Log} {rd : Rd} (ho : ops[i]? = some o) (hw : wantedA ops T o = some true)
      (hs : ∀ H2 : AHeap, (∀ l ∈ rd.labs, H2[l]? = H[l]? ∨ ∃ t k ob, rd.soft = some (l, t, k) ∧ (H[l]?).bind (tr t k) = some ob ∧ H2[l]? = some ob) → OpF P o T H2 x rd.al) (ha : dr = false → rd.al = none) (hr : Chain P ops dr tr rest (putA T o.dst x) H T' H' L) : Chain P ops dr tr (i :: rest) T H T' H' ((true, rd, []) :: L)
  | act {i : Nat} {rest : List Nat} {o : Oper} {x : AV} {T T' : List AV} {H H1 H' : AHeap} {L : Log} {Wr : List Nat} {sf : Soft} (ho : ops[i]? = some o) (hw : wantedA ops T o = some true)
      (hs : OpA P o T H x H1 Wr) (hk : Keeps H H1 Wr) (hsf : ∀ l t k, sf = some (l, t, k) → ∃ ob, (H[l]?).bind (tr t k) = some ob ∧ H1[l]? = some ob) (hr : Chain P ops dr tr rest (putA T o.dst x) H1 T' H' L) : Chain P ops dr tr (i :: rest) T H T' H' ((false, rdS sf, Wr) :: L)

def wrs : Log → List Nat
  | [] => []
  | (_, _, W) :: L => W ++ wrs L

theorem Chain.run {P : Program} {ops : Array Oper} {tr : Tr} {is : List Nat} {T T' : List AV} {H H' : AHeap} {L : Log} (h : Chain P ops false tr is T H T' H' L) : RunA P ops is T H T' H' (wrs L) := by
  induction h with
  | nil T H => exact .nil T H
  | skip ho hw hr ih => exact .skip ho hw ih
  | float ho hw hs ha hr ih =>
    refine .step ho hw (OpF.a ?_) ih
    have := hs _ (fun _ _ => .inl rfl)
    rwa [ha rfl] at this
  | act ho hw hs hk hsf hr ih => exact .step ho hw hs ih

/-- What the order of the text gives, from a place on. -/
theorem stepS_float {P : Program} {tr : Tr} {o : Oper} {T : List AV} {H : AHeap} {x : AV} (hs : stepS P o T H = some x) : ∀ H2 : AHeap, (∀ l ∈ (rdOf o T).labs, H2[l]? = H[l]? ∨ ∃ t k ob, (rdOf o T).soft = some (l, t, k) ∧ (H[l]?).bind (tr t k) = some ob ∧ H2[l]? = some ob) → OpF P o T H2 x (rdOf o T).al :=
  fun H2 h => (stepS_sound ((stepS_label (fun l hl => (h l (by simp [rdOf, hl])).elim id (fun ⟨_, _, _, e, _⟩ => by simp [rdOf] at e))).trans hs)).a.f

theorem Chain.seq {P : Program} {ops : Array Oper} {dr : Bool} {tr : Tr} {T' : List AV} {H' : AHeap} : ∀ (n k : Nat) (T : List AV) (H : AHeap) (L : Log), Chain P ops dr tr ((List.range n).map (k + ·)) T H T' H' L → k + n = ops.size →
    ∃ (Ts : Nat → List AV) (Hs : Nat → AHeap) (x : Nat → AV), Ts k = T ∧ Hs k = H ∧ Ts ops.size = T' ∧ Hs ops.size = H' ∧ L.length = n ∧
      ∀ i o, k ≤ i → ops[i]? = some o → Ts (i + 1) = putA (Ts i) o.dst (x i) ∧
        ((wantedA ops (Ts i) o = some false ∧ x i = skipA ∧ (L.getD (i - k) e0).1 = true ∧ Hs (i + 1) = Hs i) ∨
        (wantedA ops (Ts i) o = some true ∧ (L.getD (i - k) e0).1 = true ∧ Hs (i + 1) = Hs i ∧ ∀ H2 : AHeap, (∀ l ∈ (L.getD (i - k) e0).2.1.labs, H2[l]? = (Hs i)[l]? ∨ ∃ t k' ob, (L.getD (i - k) e0).2.1.soft = some (l, t, k') ∧ ((Hs i)[l]?).bind (tr t k') = some ob ∧ H2[l]? = some ob) → OpF P o (Ts i) H2 (x i) (L.getD (i - k) e0).2.1.al) ∨
        (wantedA ops (Ts i) o = some true ∧ (L.getD (i - k) e0).1 = false ∧ OpA P o (Ts i) (Hs i) (x i) (Hs (i + 1)) (L.getD (i - k) e0).2.2 ∧ Keeps (Hs i) (Hs (i + 1)) (L.getD (i - k) e0).2.2 ∧ ∀ l t k', (L.getD (i - k) e0).2.1.soft = some (l, t, k') → ∃ ob, ((Hs i)[l]?).bind (tr t k') = some ob ∧ (Hs (i + 1))[l]? = some ob)) := by
  intro n
  induction n with
  | zero =>
    intro k T H L h hk
    simp only [List.range_zero, List.map_nil] at h
    cases h
    have hk' : k = ops.size := by omega
    subst hk'
    exact ⟨fun _ => T', fun _ => H', fun _ => .any, rfl, rfl, rfl, rfl, rfl, fun i o hi ho => by have := (Array.getElem?_eq_some_iff.1 ho).1; omega⟩
  | succ n ih =>
    intro k T H L h hk
    have hr : (List.range (n + 1)).map (k + ·) = k :: (List.range n).map (k + 1 + ·) := by
      rw [List.range_succ_eq_map]
      simp only [List.map_cons, List.map_map, Nat.add_zero]
      congr 1
      refine List.map_congr_left (fun a _ => ?_)
      simp only [Function.comp]
      omega
    rw [hr] at h
    have build : ∀ (o : Oper) (y : AV) (H1 : AHeap) (e : Bool × Rd × List Nat) (L1 : Log), ops[k]? = some o → Chain P ops dr tr ((List.range n).map (k + 1 + ·)) (putA T o.dst y) H1 T' H' L1 →
        ((wantedA ops T o = some false ∧ y = skipA ∧ e.1 = true ∧ H1 = H) ∨
        (wantedA ops T o = some true ∧ e.1 = true ∧ H1 = H ∧ ∀ H2 : AHeap, (∀ l ∈ e.2.1.labs, H2[l]? = H[l]? ∨ ∃ t k' ob, e.2.1.soft = some (l, t, k') ∧ (H[l]?).bind (tr t k') = some ob ∧ H2[l]? = some ob) → OpF P o T H2 y e.2.1.al) ∨
        (wantedA ops T o = some true ∧ e.1 = false ∧ OpA P o T H y H1 e.2.2 ∧ Keeps H H1 e.2.2 ∧ ∀ l t k', e.2.1.soft = some (l, t, k') → ∃ ob, (H[l]?).bind (tr t k') = some ob ∧ H1[l]? = some ob)) → L = e :: L1 →
        ∃ (Ts : Nat → List AV) (Hs : Nat → AHeap) (x : Nat → AV), Ts k = T ∧ Hs k = H ∧ Ts ops.size = T' ∧ Hs ops.size = H' ∧ L.length = n + 1 ∧
          ∀ i o, k ≤ i → ops[i]? = some o → Ts (i + 1) = putA (Ts i) o.dst (x i) ∧
          ((wantedA ops (Ts i) o = some false ∧ x i = skipA ∧ (L.getD (i - k) e0).1 = true ∧ Hs (i + 1) = Hs i) ∨
          (wantedA ops (Ts i) o = some true ∧ (L.getD (i - k) e0).1 = true ∧ Hs (i + 1) = Hs i ∧ ∀ H2 : AHeap, (∀ l ∈ (L.getD (i - k) e0).2.1.labs, H2[l]? = (Hs i)[l]? ∨ ∃ t k' ob, (L.getD (i - k) e0).2.1.soft = some (l, t, k') ∧ ((Hs i)[l]?).bind (tr t k') = some ob ∧ H2[l]? = some ob) → OpF P o (Ts i) H2 (x i) (L.getD (i - k) e0).2.1.al) ∨
          (wantedA ops (Ts i) o = some true ∧ (L.getD (i - k) e0).1 = false ∧ OpA P o (Ts i) (Hs i) (x i) (Hs (i + 1)) (L.getD (i - k) e0).2.2 ∧ Keeps (Hs i) (Hs (i + 1)) (L.getD (i - k) e0).2.2 ∧ ∀ l t k', (L.getD (i - k) e0).2.1.soft = some (l, t, k') → ∃ ob, ((Hs i)[l]?).bind (tr t k') = some ob ∧ (Hs (i + 1))[l]? = some ob)) := by
      intro o y H1 e L1 ho hc hst hL
      subst hL
      obtain ⟨Ts, Hs, x, h1, h2, h3, h4, h5, h6⟩ := ih (k + 1) _ _ _ hc (by omega)
      refine ⟨fun i => if i = k then T else Ts i, fun i => if i = k then H else Hs i, fun i => if i = k then y else x i, by simp, by simp, ?_, ?_, by simp [h5], fun i q hi hq => ?_⟩
      · exact (if_neg (by omega)).trans h3
      · exact (if_neg (by omega)).trans h4
      · dsimp only
        by_cases hik : i = k
        · subst hik
          rw [ho] at hq
          cases hq
          rw [if_pos rfl, if_neg (by omega : ¬ i + 1 = i), if_neg (by omega : ¬ i + 1 = i), if_pos rfl, if_pos rfl, h1, h2, Nat.sub_self, List.getD_cons_zero]
          exact ⟨rfl, hst⟩
        · have := h6 i q (by omega) hq
          rw [if_neg hik, if_neg (by omega : ¬ i + 1 = k), if_neg (by omega : ¬ i + 1 = k), if_neg hik, if_neg hik]
          rw [show i - k = (i - (k + 1)) + 1 by omega, List.getD_cons_succ]
          exact this
    cases h with
    | skip ho hw hr' => exact build _ skipA H _ _ ho hr' (.inl ⟨hw, rfl, rfl, rfl⟩) rfl
    | @float _ _ o x _ _ _ _ _ _ ho hw hs ha hr' =>
      exact build _ x H _ _ ho hr' (.inr (.inl ⟨hw, rfl, rfl, hs⟩)) rfl
    | @act _ _ o x _ _ _ H1 _ _ Wr sf ho hw hs hk hsf hr' => exact build _ x H1 _ _ ho hr' (.inr (.inr ⟨hw, rfl, hs, hk, hsf⟩)) rfl

/-! ### Keys that are known -/
def samePlain : Value → Value → Bool
  | .bool x, .bool y => x == y
  | .int k x, .int l y => decide (k = l) && decide (x = y)
  | .string s, .string t => decide (s = t)
  | .nilFunc, .nilFunc => true
  | .nilIface, .nilIface => true
  | .pointer none, .pointer none => true
  | .map none, .map none => true
  | .chan none, .chan none => true
  | _, _ => false

theorem samePlain_eq {a b : Value} (h : samePlain a b = true) : a = b ∧ plain b = true := by
  unfold samePlain at h
  split at h <;> simp_all [plain]

def sameL : List Value → List Value → Bool
  | [], [] => true
  | x :: r, y :: s => samePlain x y && sameL r s
  | _, _ => false
theorem sameL_eq : ∀ {a b : List Value}, sameL a b = true → a = b
  | [], [], _ => rfl
  | [], _ :: _, h => by simp [sameL] at h
  | _ :: _, [], h => by simp [sameL] at h
  | x :: r, y :: s, h => by
    simp only [sameL, Bool.and_eq_true] at h
    rw [(samePlain_eq h.1).1, sameL_eq h.2]
def sameKey : Value → Value → Bool
  | .agg x, .agg y => sameL x.toList y.toList
  | x, y => samePlain x y
theorem sameKey_eq {a b : Value} (h : sameKey a b = true) : a = b := by
  unfold sameKey at h
  split at h
  · rw [Array.ext' (sameL_eq h)]
  · exact (samePlain_eq h).1

/-! ### The order's conditions, reckoned -/
def als (L : Log) : List Nat := L.filterMap fun e => e.2.1.al
def nodupB : List Nat → Bool
  | [] => true
  | x :: r => !(r.contains x) && nodupB r

theorem als_mem {L : Log} {i l : Nat} (h : (L.getD i e0).2.1.al = some l) : l ∈ als L := by
  unfold als
  rw [List.mem_filterMap]
  by_cases hi : i < L.length
  · exact ⟨L.getD i e0, by simp [List.getD_eq_getElem?_getD, hi], h⟩
  · rw [List.getD_eq_getElem?_getD, List.getElem?_eq_none (Nat.le_of_not_lt hi)] at h
    simp [e0, rd0] at h

theorem als_inj : ∀ (L : Log) (i j l : Nat), nodupB (als L) = true → (L.getD i e0).2.1.al = some l → (L.getD j e0).2.1.al = some l → i = j
  | [], i, j, l, _, h, _ => by simp [e0, rd0] at h
  | e :: r, i, j, l, hn, h1, h2 => by
    have hr : nodupB (als r) = true := by
      cases he : e.2.1.al with
      | none => simpa [als, he] using hn
      | some m =>
        have : als (e :: r) = m :: als r := by simp [als, he]
        rw [this] at hn
        simp only [nodupB, Bool.and_eq_true] at hn
        exact hn.2
    have no : e.2.1.al = some l → ∀ k, (r.getD k e0).2.1.al = some l → False := by
      intro he k hk
      have : als (e :: r) = l :: als r := by simp [als, he]
      rw [this] at hn
      simp only [nodupB, Bool.and_eq_true] at hn
      have hm := als_mem hk
      simp [hm] at hn
    cases i with
    | zero =>
      cases j with
      | zero => rfl
      | succ j => exact (no h1 j h2).elim
    | succ i =>
      cases j with
      | zero => exact (no h2 i h1).elim
      | succ j => rw [als_inj r i j l hr h1 h2]

def slotsOk (ops : Array Oper) (M : List Nat) : Bool :=
  (List.range ops.size).all fun i => match ops[i]? with
    | some o => (List.range ops.size).all fun j => match ops[j]? with
      | some q => match q.dst with
        | some t => i == j || !(looks ops o).contains t || lt M (min i j) (max i j)
        | none => true
      | none => true
    | none => true

/-- Before j the label is not written from i on, and j makes sure of the entry that i looks at. -/
def softOk (L : Log) (i j l : Nat) : Bool :=
  match (L.getD i e0).2.1.soft, (L.getD j e0).2.1.soft with
  | some (l1, t1, k1), some (l2, t2, k2) => decide (l1 = l) && decide (l2 = l) && decide (t1 = t2) && sameKey k1 k2 && (List.range j).all fun m => decide (m < i) || (L.getD m e0).1 || !((L.getD m e0).2.2.contains l)
  | _, _ => false

def pairsOk (n : Nat) (M : List Nat) (L : Log) : Bool :=
  (List.range n).all fun i => (List.range n).all fun j =>
    let a := L.getD i e0
    let b := L.getD j e0
    (!(decide (i < j) && !a.1 && !b.1) || lt M i j) && (!(a.1 && !b.1) || a.2.1.labs.all fun l => !(b.2.2.contains l) || (if j < i then lt M j i else lt M i j || softOk L i j l))

def edgesOk (ops : Array Oper) : Bool :=
  (List.range ops.size).all fun i => match ops[i]? with
    | some o => o.after.toList.all fun e => !(Region.binds .any e) || decide (e.on < i)
    | none => true

/-- n: how many labels there were; m: with those that are kept. -/
def drawOk (ops : Array Oper) (n m : Nat) (L : Log) : Bool :=
  let M := masks ops
  slotsOk ops M && pairsOk ops.size M L && edgesOk ops && nodupB (als L) && (als L).all (fun l => decide (n ≤ l) && decide (l < m)) && L.all fun e => e.2.1.labs.all fun l => decide (l < m)

/-- What a soft entry becomes. -/
def altOf (tr : Tr) (L : Log) (Hs : Nat → AHeap) (i l : Nat) : Option AObj :=
  match (L.getD i e0).2.1.soft with
  | some (l1, t, k) => if l1 = l then ((Hs i)[l]?).bind (tr t k) else none
  | none => none

theorem drawOk_order {ops : Array Oper} {L : Log} {H0 : AHeap} {n : Nat} {tr : Tr} {Hs : Nat → AHeap} (hl : L.length = ops.size) (h : drawOk ops n H0.length L = true)
    (hsoft : ∀ j, j < ops.size → (L.getD j e0).1 = false → ∀ l t k, (L.getD j e0).2.1.soft = some (l, t, k) → ∃ ob, ((Hs j)[l]?).bind (tr t k) = some ob ∧ (Hs (j + 1))[l]? = some ob)
    (hsame : ∀ i j l, i ≤ j → j ≤ ops.size → l < H0.length → (∀ m, i ≤ m → m < j → (L.getD m e0).1 = false → l ∉ (L.getD m e0).2.2) → (Hs j)[l]? = (Hs i)[l]?) :
    OrderOk ops (fun i => (L.getD i e0).1) (fun i => (L.getD i e0).2.1.labs) (altOf tr L Hs) Hs (fun i => (L.getD i e0).2.2) H0 := by
  unfold drawOk at h
  simp only [Bool.and_eq_true] at h
  obtain ⟨⟨⟨⟨⟨h1, h2⟩, h3⟩, _⟩, _⟩, hr⟩ := h
  have hknown : ∀ i l, i < ops.size → l ∈ (L.getD i e0).2.1.labs → l < H0.length := by
    intro i l hi hrd
    rw [List.all_eq_true] at hr
    have hil : i < L.length := by omega
    have := hr (L.getD i e0) (by simp [List.getD_eq_getElem?_getD, hil])
    rw [List.all_eq_true] at this
    simpa using this l hrd
  unfold pairsOk at h2
  rw [List.all_eq_true] at h2
  have hpair : ∀ i j, i < ops.size → j < ops.size → (L.getD i e0).1 = true → (L.getD j e0).1 = false → ∀ l, l ∈ (L.getD i e0).2.1.labs → l ∈ (L.getD j e0).2.2 → (if j < i then lt (masks ops) j i else lt (masks ops) i j || softOk L i j l) = true := by
    intro i j hi hj hfi hfj l hrd hm
    have := h2 i (by simp [hi])
    rw [List.all_eq_true] at this
    have := this j (by simp [hj])
    simp only [Bool.and_eq_true] at this
    have := this.2
    rw [hfi, hfj] at this
    simp only [Bool.not_false, Bool.and_self, Bool.not_true, Bool.false_or, List.all_eq_true] at this
    have := this l hrd
    have hc : (L.getD j e0).2.2.contains l = true := by simpa using hm
    rw [hc] at this
    simpa using this
  refine ⟨fun i o ho t ht j q hq hd hji => ?_, fun i j hij hj hfi hfj => ?_, fun i j l hji hi hfi hfj hrd hm => ?_, fun i j l hij hj hfi hfj hrd hm => ?_, fun i l hi hrd => hknown i l hi hrd, fun i o ho e he hbi => ?_⟩
  · unfold slotsOk at h1
    rw [List.all_eq_true] at h1
    have hi := (Array.getElem?_eq_some_iff.1 ho).1
    have hj := (Array.getElem?_eq_some_iff.1 hq).1
    have := h1 i (by simp [hi])
    rw [ho] at this
    simp only [List.all_eq_true] at this
    have := this j (by simp [hj])
    rw [hq] at this
    simp only [hd] at this
    have ht' : (looks ops o).contains t = true := by simpa using ht
    rw [ht'] at this
    simp only [Bool.not_true, Bool.or_false, Bool.or_eq_true, beq_iff_eq] at this
    exact this.resolve_left (fun e => hji e.symm)
  · have := h2 i (by simp; omega)
    rw [List.all_eq_true] at this
    have := this j (by simp [hj])
    simp only [Bool.and_eq_true] at this
    have := this.1
    rw [hfi, hfj] at this
    simpa [hij] using this
  · have := hpair i j hi (by omega) hfi hfj l hrd hm
    rwa [if_pos hji] at this
  · have := hpair i j (by omega) hj hfi hfj l hrd hm
    rw [if_neg (by omega), Bool.or_eq_true] at this
    rcases this with h | h
    · exact .inl h
    · refine .inr ?_
      unfold softOk at h
      split at h
      · rename_i l1 t1 k1 l2 t2 k2 hs1 hs2
        simp only [Bool.and_eq_true, decide_eq_true_eq, List.all_eq_true] at h
        obtain ⟨⟨⟨⟨e1, e2⟩, e3⟩, hk⟩, hno⟩ := h
        have e1' := e1.symm
        have e2' := e2.symm
        subst e1'
        subst e2'
        subst e3
        have hk' := sameKey_eq hk
        subst hk'
        obtain ⟨ob, ho1, ho2⟩ := hsoft j hj hfj _ _ _ hs2
        have hsm := hsame i j l (by omega) (by omega) (hknown i l (by omega) hrd) (fun m h1 h2 h3 hm => by
          have := hno m (by simp [h2])
          rw [h3] at this
          have hc : (L.getD m e0).2.2.contains l = true := by simpa using hm
          rw [hc] at this
          simp at this
          omega)
        refine ⟨ob, ?_, ho2⟩
        unfold altOf
        rw [hs1]
        simp only [if_true]
        rw [← hsm]
        exact ho1
      · cases h
  · unfold edgesOk at h3
    rw [List.all_eq_true] at h3
    have hi := (Array.getElem?_eq_some_iff.1 ho).1
    have := h3 i (by simp [hi])
    rw [ho] at this
    simp only [List.all_eq_true] at this
    have := this e (by simpa using he)
    rw [hbi] at this
    simpa using this

theorem mem_wrs {L : Log} {i l : Nat} (h : l ∈ (L.getD i e0).2.2) : l ∈ wrs L := by
  induction L generalizing i with
  | nil => simp [e0] at h
  | cons e r ih =>
    obtain ⟨a, b, W⟩ := e
    cases i with
    | zero => simp at h; simp [wrs, h]
    | succ i => rw [List.getD_cons_succ] at h; simp [wrs, ih h]

section
variable {P : Program} {n0 : Nat} {W : Nat → Prop} {Q : AExit → List AV → AHeap → Prop} {T : List AV} {H : AHeap}

theorem wpA_chain {id : Nat} {ops : Array Oper} {tr : Tr} {T' : List AV} {H' : AHeap} {L : Log} (hc : Chain P ops false tr (List.range ops.size) T H T' H' L) (hW : ∀ l ∈ wrs L, l < n0 → W l) (h : Q .normal T' H') : wpA P n0 W (.region id ops false) Q T H :=
  wpA_region hc.run hW h

theorem wpA_chain_draw {id : Nat} {ops : Array Oper} {tr : Tr} {T' : List AV} {H' : AHeap} {L : Log} {res : AHeap} (hm : P.follows .mixedOrders = true) (hres : ∀ o ∈ res, idle o = true) (hc : Chain P ops true tr (List.range ops.size) T (H ++ res) T' H' L) (hW : ∀ l ∈ wrs L, l < n0 → W l) (hd : drawOk ops H.length (H ++ res).length L = true)
    (h : Q .normal T' H') : wpA P n0 W (.region id ops true) Q T H := by
  have hc' : Chain P ops true tr ((List.range ops.size).map (0 + ·)) T (H ++ res) T' H' L := by
    have : (List.range ops.size).map (0 + ·) = List.range ops.size := by simp
    rw [this]; exact hc
  obtain ⟨Ts, Hs, x, h1, h2, h3, h4, h5, h6⟩ := hc'.seq ops.size 0 T (H ++ res) L (by omega)
  let S : Seq P ops T (H ++ res) T' H' :=
    { Ts, Hs, x, fl := fun i => (L.getD i e0).1, rd := fun i => (L.getD i e0).2.1.labs, alt := altOf tr L Hs, al := fun i => (L.getD i e0).2.1.al, Wr := fun i => (L.getD i e0).2.2, t0 := h1, h0 := h2, tn := h3, hn := h4
      next := fun i o ho => (h6 i o (Nat.zero_le _) ho).1
      step := fun i o ho => by
        have := (h6 i o (Nat.zero_le _) ho).2
        rw [Nat.sub_zero] at this
        rcases this with h | h | ⟨ha, hb, hc, hd⟩
        · exact .inl h
        · refine .inr (.inl ⟨h.1, h.2.1, h.2.2.1, fun H2 hh => h.2.2.2 H2 (fun l hl => ?_)⟩)
          rcases hh l hl with e | ⟨ob, e1, e2⟩
          · exact .inl e
          · refine .inr ?_
            unfold altOf at e1
            split at e1
            · rename_i l1 t k hs
              split at e1
              · rename_i hll
                subst hll
                exact ⟨t, k, ob, hs, e1, e2⟩
              · cases e1
            · cases e1
        · exact .inr (.inr ⟨ha, hb, hc, hd.1.1, hd.1.2⟩) }
  have hsoft : ∀ j, j < ops.size → (L.getD j e0).1 = false → ∀ l t k, (L.getD j e0).2.1.soft = some (l, t, k) → ∃ ob, ((Hs j)[l]?).bind (tr t k) = some ob ∧ (Hs (j + 1))[l]? = some ob := by
    intro j hj hf l t k hs
    have ho : ops[j]? = some ops[j] := by simp [hj]
    have := (h6 j _ (Nat.zero_le _) ho).2
    rw [Nat.sub_zero] at this
    rcases this with h | h | ⟨_, _, _, hd⟩
    · rw [h.2.2.1] at hf; cases hf
    · rw [h.2.1] at hf; cases hf
    · exact hd.2 l t k hs
  have hsame : ∀ i j l, i ≤ j → j ≤ ops.size → l < (H ++ res).length → (∀ m, i ≤ m → m < j → (L.getD m e0).1 = false → l ∉ (L.getD m e0).2.2) → (Hs j)[l]? = (Hs i)[l]? :=
    fun i j l hij hj hll hno => S.Hs_label hll j hij hj hno
  have hd' := hd
  unfold drawOk at hd'
  simp only [Bool.and_eq_true] at hd'
  obtain ⟨⟨⟨_, hnd⟩, hal⟩, _⟩ := hd'
  rw [List.all_eq_true] at hal
  have hkp : Kept S H := ⟨by simp, fun i l hi hl => by
    have := hal l (als_mem hl)
    simp only [Bool.and_eq_true, decide_eq_true_eq] at this
    exact this, fun i j l hi hj h1 h2 => als_inj L i j l hnd h1 h2⟩
  exact wpA_draw hm S hkp rfl hres (drawOk_order h5 hd hsoft hsame) (fun i l _ hl hn => hW l (mem_wrs hl) hn) h
end
end Go.Proofs.YtiipaliigpkfhaaGreat.Ab
