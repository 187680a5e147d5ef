/- Part 1 of an abstract machine for this seat's proofs: abstract values, what stands for what, how it is kept. No program in sight. -/
import Derived.OrdersHeld
import Derived.Below
import Derived.Laws.AppendOwn
set_option linter.unusedVariables false
namespace Go.Proofs.YtiipaliigpkfhaaGreat.Ab
open Go Go.RowKit

/-- What is known of a row's capacity. -/
inductive Own where
  | non
  | tight
  | tok (t : Nat)
  deriving DecidableEq

/-- Abstract values. -/
inductive AV where
  | any
  | sc (v : Value)
  | ptr (l o : Nat)
  | rptr (cs : List AV)
  | rsl (nl : Bool) (sz n : Nat) (el : Nat → List AV) (own : Own)
  | fn (f : Fn) (first caps : List AV)
  | ifc (t : TypeId) (v : AV)
  | agg (cs : List AV)
  | tup (vs : List AV)
  | mapr (l : Nat)
  | stamp (l i : Nat)
  | msl (l sz n : Nat)

/-- What is known of memory beside the abstract heap: labels' blocks, cells that never change, tokens' rows by length. -/
structure Env where
  φ : Nat → Option Nat
  S : Nat → Nat → Option Value
  G : Nat → Nat → Option (Nat × Nat)

structure Env.le (E E' : Env) : Prop where
  φ : ∀ {l b}, E.φ l = some b → E'.φ l = some b
  S : ∀ {b o u}, E.S b o = some u → E'.S b o = some u
  G : ∀ {t n x}, E.G t n = some x → E'.G t n = some x

theorem Env.le.refl (E : Env) : E.le E := ⟨fun h => h, fun h => h, fun h => h⟩
theorem Env.le.trans {E E' E'' : Env} (h : E.le E') (k : E'.le E'') : E.le E'' := ⟨fun x => k.φ (h.φ x), fun x => k.S (h.S x), fun x => k.G (h.G x)⟩

/-- A value that bears no address. -/
def plain : Value → Bool
  | .bool _ | .int _ _ | .float _ _ | .complex _ _ _ | .string _ | .nilFunc | .nilIface | .pointer none | .map none | .chan none => true
  | _ => false

def Own.ok (E : Env) (own : Own) (n : Nat) (b off c : Nat) : Prop :=
  match own with
  | .non => n ≤ c
  | .tight => c = n
  | .tok t => E.G t n = some (b, c) ∧ off = 0 ∧ n ≤ c

/-- What is known of the cells that stay, and no more. -/
def Env.data (E : Env) : Env := { φ := fun _ => none, S := E.S, G := fun _ _ => none }
theorem Env.data_le (E : Env) : E.data.le E := ⟨fun h => (by cases h), fun h => h, fun h => (by cases h)⟩
theorem Env.le.data {E E' : Env} (h : E.le E') : E.data.le E'.data := ⟨fun h => (by cases h), fun x => h.S x, fun h => (by cases h)⟩

/-- One cell of memory holds it. -/
def oneC : AV → Bool
  | .any | .agg _ | .tup _ => false
  | _ => true

inductive Rel : Env → AV → Value → Prop where
  | any {E : Env} (v : Value) : Rel E .any v
  | sc {E : Env} (v : Value) (h : plain v = true) : Rel E (.sc v) v
  | ptr {E : Env} (l o b : Nat) (h : E.φ l = some b) : Rel E (.ptr l o) (.pointer (some ⟨b, o, none⟩))
  | rptr {E : Env} (cs : List AV) (b off : Nat) (u : Nat → Value) (h : ∀ j x, cs[j]? = some x → E.S b (off + j) = some (u j))
      (k : ∀ j x, cs[j]? = some x → Rel E.data x (u j)) : Rel E (.rptr cs) (.pointer (some ⟨b, off, none⟩))
  | rnil {E : Env} (sz : Nat) (el : Nat → List AV) (own : Own) (h : own = .non ∨ own = .tight) : Rel E (.rsl true sz 0 el own) (.slice none 0 0)
  | rodd {E : Env} (sz : Nat) (el : Nat → List AV) (own : Own) (a : Addr) (h : own = .non ∨ own = .tight) : Rel E (.rsl false sz 0 el own) (.slice (some a) 0 0)
  | rsl {E : Env} (sz n : Nat) (el : Nat → List AV) (own : Own) (b off c : Nat) (u : Nat → Nat → Value) (hn : c ≤ maxLen) (ho : own.ok E n b off c) (hc : n ≤ c)
      (hl : ∀ i, i < n → (el i).length = sz) (h1 : ∀ i, i < n → ∀ x, x ∈ el i → oneC x = true) (h : ∀ i, i < n → ∀ j x, (el i)[j]? = some x → E.S b (off + i * sz + j) = some (u i j))
      (k : ∀ i, i < n → ∀ j x, (el i)[j]? = some x → Rel E.data x (u i j)) : Rel E (.rsl false sz n el own) (.slice (some ⟨b, off, none⟩) n c)
  | fn {E : Env} (f : Fn) (first caps : List AV) (us vs : Array Value) (h1 : us.size = first.length) (h2 : vs.size = caps.length)
      (k1 : ∀ j x, first[j]? = some x → Rel E x (us.getD j undef)) (k2 : ∀ j x, caps[j]? = some x → Rel E x (vs.getD j undef)) : Rel E (.fn f first caps) (.func f us vs)
  | ifc {E : Env} (t : TypeId) (x : AV) (v : Value) (k : Rel E x v) : Rel E (.ifc t x) (.iface t v)
  | agg {E : Env} (cs : List AV) (us : Array Value) (h : us.size = cs.length) (k : ∀ j x, cs[j]? = some x → Rel E x (us.getD j undef)) : Rel E (.agg cs) (.agg us)
  | tup {E : Env} (cs : List AV) (us : Array Value) (h : us.size = cs.length) (k : ∀ j x, cs[j]? = some x → Rel E x (us.getD j undef)) : Rel E (.tup cs) (.tuple us)
  | mapr {E : Env} (l b : Nat) (h : E.φ l = some b) : Rel E (.mapr l) (.map (some b))
  | stamp {E : Env} (l i n : Nat) (h : E.G l i = some (n, 0)) : Rel E (.stamp l i) (.int .i64 n)
  | msl {E : Env} (l sz n b : Nat) (h : E.φ l = some b) (hn : n ≤ maxLen) : Rel E (.msl l sz n) (.slice (some ⟨b, 0, none⟩) n n)

theorem Own.ok.mono {E E' : Env} {own : Own} {n b off c : Nat} (h : own.ok E n b off c) (he : E.le E') : own.ok E' n b off c := by
  cases own with
  | non => exact h
  | tight => exact h
  | tok t => exact ⟨he.G h.1, h.2⟩

theorem Rel.mono {E E' : Env} {x : AV} {v : Value} (h : Rel E x v) (he : E.le E') : Rel E' x v := by
  induction h generalizing E' with
  | any v => exact .any v
  | sc v h => exact .sc v h
  | ptr l o b h => exact .ptr l o b (he.φ h)
  | rptr cs b off u h k ih => exact .rptr cs b off u (fun j x hj => he.S (h j x hj)) (fun j x hj => ih j x hj he.data)
  | rnil sz el own h => exact .rnil sz el own h
  | rodd sz el own a h => exact .rodd sz el own a h
  | rsl sz n el own b off c u hn ho hc hl h1 h k ih => exact .rsl sz n el own b off c u hn (ho.mono he) hc hl h1 (fun i hi j x hj => he.S (h i hi j x hj)) (fun i hi j x hj => ih i hi j x hj he.data)
  | fn f first caps us vs h1 h2 k1 k2 i1 i2 => exact .fn f first caps us vs h1 h2 (fun j x hj => i1 j x hj he) (fun j x hj => i2 j x hj he)
  | ifc t x v k ih => exact .ifc t x v (ih he)
  | agg cs us h k ih => exact .agg cs us h (fun j x hj => ih j x hj he)
  | tup cs us h k ih => exact .tup cs us h (fun j x hj => ih j x hj he)
  | mapr l b h => exact .mapr l b (he.φ h)
  | stamp l i n h => exact .stamp l i n (he.G h)
  | msl l sz n b h hn => exact .msl l sz n b (he.φ h) hn

/-- No label, no token. -/
inductive LF : AV → Prop where
  | any : LF .any
  | sc (v : Value) : LF (.sc v)
  | rptr (cs : List AV) : LF (.rptr cs)
  | rsl (nl : Bool) (sz n : Nat) (el : Nat → List AV) (own : Own) (h : ∀ t, own ≠ .tok t) : LF (.rsl nl sz n el own)
  | fn (f : Fn) (first caps : List AV) (h1 : ∀ x ∈ first, LF x) (h2 : ∀ x ∈ caps, LF x) : LF (.fn f first caps)
  | ifc (t : TypeId) (x : AV) (h : LF x) : LF (.ifc t x)
  | agg (cs : List AV) (h : ∀ x ∈ cs, LF x) : LF (.agg cs)
  | tup (cs : List AV) (h : ∀ x ∈ cs, LF x) : LF (.tup cs)

/-- What bears no label is told by the cells that stay alone. -/
theorem Rel.lf {E E' : Env} {x : AV} {v : Value} (h : Rel E x v) (hl : LF x) (hS : ∀ {b o u}, E.S b o = some u → E'.S b o = some u) : Rel E' x v := by
  have hd : E.data.le E'.data := ⟨fun h => (by cases h), fun h => hS h, fun h => (by cases h)⟩
  induction h generalizing E' with
  | any v => exact .any v
  | sc v h => exact .sc v h
  | ptr l o b h => cases hl
  | rptr cs b off u h k ih => exact .rptr cs b off u (fun j x hj => hS (h j x hj)) (fun j x hj => (k j x hj).mono hd)
  | rnil sz el own h => exact .rnil sz el own h
  | rodd sz el own a h => exact .rodd sz el own a h
  | rsl sz n el own b off c u hn ho hc hlen h1 h k ih =>
    cases hl with
    | rsl nl sz n el own hno =>
      refine .rsl sz n el own b off c u hn ?_ hc hlen h1 (fun i hi j x hj => hS (h i hi j x hj)) (fun i hi j x hj => (k i hi j x hj).mono hd)
      cases own with
      | non => exact ho
      | tight => exact ho
      | tok t => exact absurd rfl (hno t)
  | fn f first caps us vs h1 h2 k1 k2 i1 i2 =>
    cases hl with
    | fn f first caps l1 l2 => exact .fn f first caps us vs h1 h2 (fun j x hj => i1 j x hj (l1 x (List.mem_of_getElem? hj)) hS hd) (fun j x hj => i2 j x hj (l2 x (List.mem_of_getElem? hj)) hS hd)
  | ifc t x v k ih => cases hl with | ifc t x h => exact .ifc t x v (ih h hS hd)
  | agg cs us h k ih => cases hl with | agg cs hl => exact .agg cs us h (fun j x hj => ih j x hj (hl x (List.mem_of_getElem? hj)) hS hd)
  | tup cs us h k ih => cases hl with | tup cs hl => exact .tup cs us h (fun j x hj => ih j x hj (hl x (List.mem_of_getElem? hj)) hS hd)
  | mapr l b h => cases hl
  | stamp l i n h => cases hl
  | msl l sz n b h hn => cases hl

/-- Abstract objects. -/
inductive AObj where
  | dead
  | cells (cs : List AV)
  | tail (n sz : Nat)
  | map (es : List (Value × AV))
  | iter (m : Nat)
  | mark (k : Bool)

abbrev AHeap := List AObj

/-- Which block is a label's. -/
def owns (E : Env) (H : AHeap) (l b : Nat) : Prop :=
  match H[l]? with
  | some (.cells _) => E.φ l = some b
  | some (.map _) => E.φ l = some b
  | some (.iter _) => E.φ l = some b
  | some (.mark _) => E.φ l = some b
  | some (.tail n _) => ∃ c, E.G l n = some (b, c)
  | _ => False

/-- Cells stand for a list, as far as that goes. -/
def RelCells (E : Env) (cs : List AV) (arr : Array Value) : Prop := ∀ (j : Nat) (x : AV), cs[j]? = some x → ∃ u : Value, arr[j]? = some u ∧ Rel E x u

/-- What is known of the entries' births: of a map's label, by its entries' places. -/
def BornG (E : Env) (l : Nat) (ms : Array MapEntry) : Prop := ∀ (i : Nat) (x : Nat × Nat), E.G l i = some x → x.2 = 0 ∧ ∃ m : MapEntry, ms[i]? = some m ∧ m.born = x.1

def MapRel (E : Env) (l : Nat) (es : List (Value × AV)) (ms : Array MapEntry) (clock : Nat) : Prop :=
  ms.size = es.length ∧ (∀ (j : Nat) (e : Value × AV), es[j]? = some e → ∃ m : MapEntry, ms[j]? = some m ∧ m.key = e.1 ∧ Rel E e.2 m.val) ∧
  (∀ (i : Nat) (m : MapEntry), ms[i]? = some m → m.born < clock) ∧ (∀ (i j : Nat) (m m' : MapEntry), ms[i]? = some m → ms[j]? = some m' → m.born = m'.born → i = j) ∧ BornG E l ms

/-- A loop's record that nothing has touched; a list of deferred calls that is empty. -/
def markIs (k : Bool) (o : Obj) : Prop := if k = true then o = .deferred (some []) else ∃ r : Loop, o = .loop r ∧ (r.state == .busy) = false ∧ r.pending = none

/-- What an object says of its block. -/
def ObjRel (E : Env) (l : Nat) (o : AObj) (base : Nat) (w : World) : Prop :=
  match o with
  | .dead => True
  | .cells cs => ∀ b, E.φ l = some b → base ≤ b ∧ (∀ o, E.S b o = none) ∧ ∃ arr T, w.heap[b]? = some (.cells arr T (0, 0)) ∧ RelCells E cs arr
  | .tail n sz => ∃ b c arr T, E.G l n = some (b, c) ∧ base ≤ b ∧ w.heap[b]? = some (.cells arr T (0, 0)) ∧ arr.size = c * sz ∧ n ≤ c ∧ c ≤ maxLen ∧
      (∀ o, n * sz ≤ o → E.S b o = none) ∧ ∀ m, n < m → E.G l m = none
  | .map es => ∀ b, E.φ l = some b → base ≤ b ∧ ∃ ms clock, w.heap[b]? = some (.map ms clock) ∧ MapRel E l es ms clock
  | .mark k => ∀ b, E.φ l = some b → base ≤ b ∧ ∃ o, w.heap[b]? = some o ∧ markIs k o
  | .iter m => ∀ b, E.φ l = some b → base ≤ b ∧ ∃ r ck, E.φ m = some r ∧ w.heap[b]? = some (.mapIter (some r) ck #[] ck)

structure Good (E : Env) (H : AHeap) (w0 w : World) : Prop where
  below : Below w0.heap.size w0 w
  snap : ∀ {b o u}, E.S b o = some u → w.cell? ⟨b, o, none⟩ = some u
  obj : ∀ {l o}, H[l]? = some o → ObjRel E l o w0.heap.size w
  sep : ∀ {l l' b}, owns E H l b → owns E H l' b → l = l'
  fresh : ∀ {l}, H.length ≤ l → E.φ l = none ∧ ∀ n, E.G l n = none
  φlt : ∀ {l b}, E.φ l = some b → b < w.heap.size

/-- How a state has gone on: n0: how many labels there were; W: which of these may have been written. -/
structure Ext (n0 : Nat) (W : Nat → Prop) (E : Env) (H : AHeap) (w : World) (E' : Env) (H' : AHeap) (w' : World) : Prop where
  le : E.le E'
  size : w.heap.size ≤ w'.heap.size
  len : H.length ≤ H'.length
  same : ∀ {l}, l < n0 → ¬ W l → H'[l]? = H[l]?
  keep : ∀ {l b}, l < n0 → ¬ W l → owns E H l b → w'.heap[b]? = w.heap[b]?
  old : ∀ {l}, l < H.length → E'.φ l = E.φ l
  stay : ∀ {b}, b < w.heap.size → (∀ l, ¬ owns E H l b) → w'.heap[b]? = w.heap[b]? ∧ (∀ l, ¬ owns E' H' l b) ∧ ∀ o, E'.S b o = E.S b o

theorem Ext.refl (n0 : Nat) (W : Nat → Prop) (E : Env) (H : AHeap) (w : World) : Ext n0 W E H w E H w :=
  ⟨.refl E, Nat.le_refl _, Nat.le_refl _, fun _ _ => rfl, fun _ _ _ => rfl, fun _ => rfl, fun _ h => ⟨rfl, h, fun _ => rfl⟩⟩

theorem owns.step {E E' : Env} {H H' : AHeap} {l b : Nat} (h : owns E H l b) (he : E.le E') (hs : H'[l]? = H[l]?) : owns E' H' l b := by
  unfold owns at *
  rw [hs]
  generalize H[l]? = o at *
  cases o with
  | none => exact h
  | some o =>
    cases o with
    | dead => exact h
    | cells cs => exact he.φ h
    | tail n sz => obtain ⟨c, hc⟩ := h; exact ⟨c, he.G hc⟩
    | map es => exact he.φ h
    | iter m => exact he.φ h
    | mark k => exact he.φ h

theorem Ext.trans {n0 : Nat} {W : Nat → Prop} {E E' E'' : Env} {H H' H'' : AHeap} {w w' w'' : World} (h : Ext n0 W E H w E' H' w') (k : Ext n0 W E' H' w' E'' H'' w'') : Ext n0 W E H w E'' H'' w'' :=
  ⟨h.le.trans k.le, Nat.le_trans h.size k.size, Nat.le_trans h.len k.len, fun hl hw => (k.same hl hw).trans (h.same hl hw),
   fun hl hw ho => (k.keep hl hw (ho.step h.le (h.same hl hw))).trans (h.keep hl hw ho), fun hl => (k.old (Nat.lt_of_lt_of_le hl h.len)).trans (h.old hl),
   fun hb h0 => ⟨(k.stay (Nat.lt_of_lt_of_le hb h.size) (h.stay hb h0).2.1).1.trans (h.stay hb h0).1, (k.stay (Nat.lt_of_lt_of_le hb h.size) (h.stay hb h0).2.1).2.1, fun o => ((k.stay (Nat.lt_of_lt_of_le hb h.size) (h.stay hb h0).2.1).2.2 o).trans ((h.stay hb h0).2.2 o)⟩⟩

/-- A smaller part, more that may be written. -/
theorem Ext.weaken {n0 n1 : Nat} {W W1 : Nat → Prop} {E E' : Env} {H H' : AHeap} {w w' : World} (h : Ext n0 W E H w E' H' w') (hn : n1 ≤ n0) (hW : ∀ l, l < n1 → W l → W1 l) : Ext n1 W1 E H w E' H' w' :=
  ⟨h.le, h.size, h.len, fun hl hw => h.same (by omega) (fun x => hw (hW _ hl x)), fun hl hw ho => h.keep (by omega) (fun x => hw (hW _ hl x)) ho, h.old, h.stay⟩

def RelT (E : Env) (T : List AV) (tmps : Array Value) : Prop := tmps.size = T.length ∧ ∀ i x, T[i]? = some x → Rel E x (tmps.getD i undef)
theorem RelT.mono {E E' : Env} (he : E.le E') {T : List AV} {tmps : Array Value} (h : RelT E T tmps) : RelT E' T tmps := ⟨h.1, fun i x hx => (h.2 i x hx).mono he⟩

def RelL (E : Env) (xs : List AV) (vs : Array Value) : Prop := vs.size = xs.length ∧ ∀ i x, xs[i]? = some x → Rel E x (vs.getD i undef)
theorem RelL.mono {E E' : Env} (he : E.le E') {T : List AV} {tmps : Array Value} (h : RelL E T tmps) : RelL E' T tmps := ⟨h.1, fun i x hx => (h.2 i x hx).mono he⟩

end Go.Proofs.YtiipaliigpkfhaaGreat.Ab
