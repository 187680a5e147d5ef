/- Part 1 of an abstract machine for this seat's proofs: abstract values, what stands for what, how it is kept. No program in sight. -/
import Derived.OrdersHeld
import Derived.Below
import Derived.Laws.AppendOwn
import Derived.ScopeJumps
import Derived.Conc.MuLone
set_option linter.unusedVariables false
namespace Go.Proofs.YtiipaliigpkfhaaGreat.Ab
open Go Go.RowKit

/-- What is known of a row's capacity. -/
inductive Own where
  | non
  | tight
  | tok (t : Nat)
  deriving DecidableEq

/-- Abstract values. -/
inductive AV where
  | any
  | sc (v : Value)
  | ptr (l o : Nat)
  | rptr (cs : List AV)
  | rsl (nl : Bool) (sz n : Nat) (el : Nat → List AV) (own : Own)
  | fn (f : Fn) (first caps : List AV)
  | ifc (t : TypeId) (v : AV)
  | agg (cs : List AV)
  | tup (vs : List AV)
  | mapr (l : Nat)
  | stamp (l i : Nat)
  | msl (l sz n : Nat)
  | asl (l sz n : Nat)
  | yfn (l : Nat)

/-- What is known of memory beside the abstract heap: labels' blocks, cells that never change, tokens' rows by length. -/
structure Env where
  φ : Nat → Option Nat
  S : Nat → Nat → Option Value
  G : Nat → Nat → Option (Nat × Nat)

structure Env.le (E E' : Env) : Prop where
  φ : ∀ {l b}, E.φ l = some b → E'.φ l = some b
  S : ∀ {b o u}, E.S b o = some u → E'.S b o = some u
  G : ∀ {t n x}, E.G t n = some x → E'.G t n = some x

theorem Env.le.refl (E : Env) : E.le E := ⟨fun h => h, fun h => h, fun h => h⟩
theorem Env.le.trans {E E' E'' : Env} (h : E.le E') (k : E'.le E'') : E.le E'' := ⟨fun x => k.φ (h.φ x), fun x => k.S (h.S x), fun x => k.G (h.G x)⟩

/-- A value that bears no address. -/
def plain : Value → Bool
  | .bool _ | .int _ _ | .float _ _ | .complex _ _ _ | .string _ | .nilFunc | .nilIface | .pointer none | .map none | .chan none => true
  | _ => false

def Own.ok (E : Env) (own : Own) (n : Nat) (b off c : Nat) : Prop :=
  match own with
  | .non => n ≤ c
  | .tight => c = n
  | .tok t => E.G t n = some (b, c) ∧ off = 0 ∧ n ≤ c

/-- What is known of the cells that stay, and no more. -/
def Env.data (E : Env) : Env := { φ := fun _ => none, S := E.S, G := fun _ _ => none }
theorem Env.data_le (E : Env) : E.data.le E := ⟨fun h => (by cases h), fun h => h, fun h => (by cases h)⟩
theorem Env.le.data {E E' : Env} (h : E.le E') : E.data.le E'.data := ⟨fun h => (by cases h), fun x => h.S x, fun h => (by cases h)⟩

/-- One cell of memory holds it. -/
def oneC : AV → Bool
  | .any | .agg _ | .tup _ => false
  | _ => true

inductive Rel : Env → AV → Value → Prop where
  | any {E : Env} (v : Value) : Rel E .any v
  | sc {E : Env} (v : Value) (h : plain v = true) : Rel E (.sc v) v
  | ptr {E : Env} (l o b : Nat) (h : E.φ l = some b) : Rel E (.ptr l o) (.pointer (some ⟨b, o, none⟩))
  | rptr {E : Env} (cs : List AV) (b off : Nat) (u : Nat → Value) (h : ∀ j x, cs[j]? = some x → E.S b (off + j) = some (u j))
      (k : ∀ j x, cs[j]? = some x → Rel E.data x (u j)) : Rel E (.rptr cs) (.pointer (some ⟨b, off, none⟩))
  | rnil {E : Env} (sz : Nat) (el : Nat → List AV) (own : Own) (h : own = .non ∨ own = .tight) : Rel E (.rsl true sz 0 el own) (.slice none 0 0)
  | rodd {E : Env} (sz : Nat) (el : Nat → List AV) (own : Own) (a : Addr) (h : own = .non ∨ own = .tight) : Rel E (.rsl false sz 0 el own) (.slice (some a) 0 0)
  | rsl {E : Env} (sz n : Nat) (el : Nat → List AV) (own : Own) (b off c : Nat) (u : Nat → Nat → Value) (hn : c ≤ maxLen) (ho : own.ok E n b off c) (hc : n ≤ c)
      (hl : ∀ i, i < n → (el i).length = sz) (h1 : ∀ i, i < n → ∀ x, x ∈ el i → oneC x = true) (h : ∀ i, i < n → ∀ j x, (el i)[j]? = some x → E.S b (off + i * sz + j) = some (u i j))
      (k : ∀ i, i < n → ∀ j x, (el i)[j]? = some x → Rel E.data x (u i j)) : Rel E (.rsl false sz n el own) (.slice (some ⟨b, off, none⟩) n c)
  | fn {E : Env} (f : Fn) (first caps : List AV) (us vs : Array Value) (h1 : us.size = first.length) (h2 : vs.size = caps.length)
      (k1 : ∀ j x, first[j]? = some x → Rel E x (us.getD j undef)) (k2 : ∀ j x, caps[j]? = some x → Rel E x (vs.getD j undef)) : Rel E (.fn f first caps) (.func f us vs)
  | ifc {E : Env} (t : TypeId) (x : AV) (v : Value) (k : Rel E x v) : Rel E (.ifc t x) (.iface t v)
  | agg {E : Env} (cs : List AV) (us : Array Value) (h : us.size = cs.length) (k : ∀ j x, cs[j]? = some x → Rel E x (us.getD j undef)) : Rel E (.agg cs) (.agg us)
  | tup {E : Env} (cs : List AV) (us : Array Value) (h : us.size = cs.length) (k : ∀ j x, cs[j]? = some x → Rel E x (us.getD j undef)) : Rel E (.tup cs) (.tuple us)
  | mapr {E : Env} (l b : Nat) (h : E.φ l = some b) : Rel E (.mapr l) (.map (some b))
  | stamp {E : Env} (l i n : Nat) (h : E.G l i = some (n, 0)) : Rel E (.stamp l i) (.int .i64 n)
  | msl {E : Env} (l sz n b : Nat) (h : E.φ l = some b) (hn : n ≤ maxLen) : Rel E (.msl l sz n) (.slice (some ⟨b, 0, none⟩) n n)
  | asl {E : Env} (l sz n b c : Nat) (h : E.φ l = some b) (hn : n ≤ c) : Rel E (.asl l sz n) (.slice (some ⟨b, 0, none⟩) n c)
  | yfn {E : Env} (l b : Nat) (h : E.φ l = some b) : Rel E (.yfn l) (.func (.yield b) #[] #[])

theorem Own.ok.mono {E E' : Env} {own : Own} {n b off c : Nat} (h : own.ok E n b off c) (he : E.le E') : own.ok E' n b off c := by
  cases own with
  | non => exact h
  | tight => exact h
  | tok t => exact ⟨he.G h.1, h.2⟩

theorem Rel.mono {E E' : Env} {x : AV} {v : Value} (h : Rel E x v) (he : E.le E') : Rel E' x v := by
  induction h generalizing E' with
  | any v => exact .any v
  | sc v h => exact .sc v h
  | ptr l o b h => exact .ptr l o b (he.φ h)
  | rptr cs b off u h k ih => exact .rptr cs b off u (fun j x hj => he.S (h j x hj)) (fun j x hj => ih j x hj he.data)
  | rnil sz el own h => exact .rnil sz el own h
  | rodd sz el own a h => exact .rodd sz el own a h
  | rsl sz n el own b off c u hn ho hc hl h1 h k ih => exact .rsl sz n el own b off c u hn (ho.mono he) hc hl h1 (fun i hi j x hj => he.S (h i hi j x hj)) (fun i hi j x hj => ih i hi j x hj he.data)
  | fn f first caps us vs h1 h2 k1 k2 i1 i2 => exact .fn f first caps us vs h1 h2 (fun j x hj => i1 j x hj he) (fun j x hj => i2 j x hj he)
  | ifc t x v k ih => exact .ifc t x v (ih he)
  | agg cs us h k ih => exact .agg cs us h (fun j x hj => ih j x hj he)
  | tup cs us h k ih => exact .tup cs us h (fun j x hj => ih j x hj he)
  | mapr l b h => exact .mapr l b (he.φ h)
  | stamp l i n h => exact .stamp l i n (he.G h)
  | msl l sz n b h hn => exact .msl l sz n b (he.φ h) hn
  | asl l sz n b c h hn => exact .asl l sz n b c (he.φ h) hn
  | yfn l b h => exact .yfn l b (he.φ h)

/-- No label, no token. -/
inductive LF : AV → Prop where
  | any : LF .any
  | sc (v : Value) : LF (.sc v)
  | rptr (cs : List AV) : LF (.rptr cs)
  | rsl (nl : Bool) (sz n : Nat) (el : Nat → List AV) (own : Own) (h : ∀ t, own ≠ .tok t) : LF (.rsl nl sz n el own)
  | fn (f : Fn) (first caps : List AV) (h1 : ∀ x ∈ first, LF x) (h2 : ∀ x ∈ caps, LF x) : LF (.fn f first caps)
  | ifc (t : TypeId) (x : AV) (h : LF x) : LF (.ifc t x)
  | agg (cs : List AV) (h : ∀ x ∈ cs, LF x) : LF (.agg cs)
  | tup (cs : List AV) (h : ∀ x ∈ cs, LF x) : LF (.tup cs)

/-- What bears no label is told by the cells that stay alone. -/
theorem Rel.lf {E E' : Env} {x : AV} {v : Value} (h : Rel E x v) (hl : LF x) (hS : ∀ {b o u}, E.S b o = some u → E'.S b o = some u) : Rel E' x v := by
  have hd : E.data.le E'.data := ⟨fun h => (by cases h), fun h => hS h, fun h => (by cases h)⟩
  induction h generalizing E' with
  | any v => exact .any v
  | sc v h => exact .sc v h
  | ptr l o b h => cases hl
  | rptr cs b off u h k ih => exact .rptr cs b off u (fun j x hj => hS (h j x hj)) (fun j x hj => (k j x hj).mono hd)
  | rnil sz el own h => exact .rnil sz el own h
  | rodd sz el own a h => exact .rodd sz el own a h
  | rsl sz n el own b off c u hn ho hc hlen h1 h k ih =>
    cases hl with
    | rsl nl sz n el own hno =>
      refine .rsl sz n el own b off c u hn ?_ hc hlen h1 (fun i hi j x hj => hS (h i hi j x hj)) (fun i hi j x hj => (k i hi j x hj).mono hd)
      cases own with
      | non => exact ho
      | tight => exact ho
      | tok t => exact absurd rfl (hno t)
  | fn f first caps us vs h1 h2 k1 k2 i1 i2 =>
    cases hl with
    | fn f first caps l1 l2 => exact .fn f first caps us vs h1 h2 (fun j x hj => i1 j x hj (l1 x (List.mem_of_getElem? hj)) hS hd) (fun j x hj => i2 j x hj (l2 x (List.mem_of_getElem? hj)) hS hd)
  | ifc t x v k ih => cases hl with | ifc t x h => exact .ifc t x v (ih h hS hd)
  | agg cs us h k ih => cases hl with | agg cs hl => exact .agg cs us h (fun j x hj => ih j x hj (hl x (List.mem_of_getElem? hj)) hS hd)
  | tup cs us h k ih => cases hl with | tup cs hl => exact .tup cs us h (fun j x hj => ih j x hj (hl x (List.mem_of_getElem? hj)) hS hd)
  | mapr l b h => cases hl
  | stamp l i n h => cases hl
  | msl l sz n b h hn => cases hl
  | asl l sz n b c h hn => cases hl
  | yfn l b h => cases hl

def RelT (E : Env) (T : List AV) (tmps : Array Value) : Prop := tmps.size = T.length ∧ ∀ i x, T[i]? = some x → Rel E x (tmps.getD i undef)
theorem RelT.mono {E E' : Env} (he : E.le E') {T : List AV} {tmps : Array Value} (h : RelT E T tmps) : RelT E' T tmps := ⟨h.1, fun i x hx => (h.2 i x hx).mono he⟩

/-- What lies beside a range over a function: its deferred calls (none); its record: what the loop's rounds start from, what is yet to be done behind it. -/
inductive Mk where
  | defs
  | loop (T : List AV) (ps : Array Tmp) (assign body : Code) (st : Option Code)

/-- Abstract objects. -/
inductive AObj where
  | dead
  | cells (cs : List AV)
  | tail (n sz : Nat)
  | map (es : List (Value × AV))
  | iter (m : Nat)
  | mark (k : Mk)

abbrev AHeap := List AObj

/-- Which block is a label's. -/
def owns (E : Env) (H : AHeap) (l b : Nat) : Prop :=
  match H[l]? with
  | some (.cells _) => E.φ l = some b
  | some (.map _) => E.φ l = some b
  | some (.iter _) => E.φ l = some b
  | some (.mark _) => E.φ l = some b
  | some (.tail n _) => ∃ c, E.G l n = some (b, c)
  | _ => False

/-- Cells stand for a list, as far as that goes. -/
def RelCells (E : Env) (cs : List AV) (arr : Array Value) : Prop := ∀ (j : Nat) (x : AV), cs[j]? = some x → ∃ u : Value, arr[j]? = some u ∧ Rel E x u

/-- What is known of the entries' births: of a map's label, by its entries' places. -/
def BornG (E : Env) (l : Nat) (ms : Array MapEntry) : Prop := ∀ (i : Nat) (x : Nat × Nat), E.G l i = some x → x.2 = 0 ∧ ∃ m : MapEntry, ms[i]? = some m ∧ m.born = x.1

def MapRel (E : Env) (l : Nat) (es : List (Value × AV)) (ms : Array MapEntry) (clock : Nat) : Prop :=
  ms.size = es.length ∧ (∀ (j : Nat) (e : Value × AV), es[j]? = some e → ∃ m : MapEntry, ms[j]? = some m ∧ m.key = e.1 ∧ Rel E e.2 m.val) ∧
  (∀ (i : Nat) (m : MapEntry), ms[i]? = some m → m.born < clock) ∧ (∀ (i j : Nat) (m m' : MapEntry), ms[i]? = some m → ms[j]? = some m' → m.born = m'.born → i = j) ∧ BornG E l ms

/-- A loop's record between rounds; a list of deferred calls that is empty. -/
def markIs (E : Env) : Mk → Obj → Prop
  | .defs, o => o = .deferred (some [])
  | .loop T ps as bd st, o => ∃ r : Loop, o = .loop r ∧ RelT E T r.tmps ∧ r.params = ps ∧ r.assign = as ∧ r.body = bd ∧ r.pending = st ∧ r.state = (if st.isNone then .ready else .done)

theorem markIs.mono {E E' : Env} (he : E.le E') {k : Mk} {o : Obj} (h : markIs E k o) : markIs E' k o := by
  cases k with
  | defs => exact h
  | loop T ps as bd st => obtain ⟨r, h1, h2, h3⟩ := h; exact ⟨r, h1, h2.mono he, h3⟩

/-- What an object says of its block. -/
def ObjRel (E : Env) (l : Nat) (o : AObj) (base : Nat) (w : World) : Prop :=
  match o with
  | .dead => True
  | .cells cs => ∀ b, E.φ l = some b → base ≤ b ∧ (∀ o, E.S b o = none) ∧ ∃ arr T, w.heap[b]? = some (.cells arr T (0, 0)) ∧ RelCells E cs arr
  | .tail n sz => ∃ b c arr T, E.G l n = some (b, c) ∧ base ≤ b ∧ w.heap[b]? = some (.cells arr T (0, 0)) ∧ arr.size = c * sz ∧ n ≤ c ∧ c ≤ maxLen ∧
      (∀ o, n * sz ≤ o → E.S b o = none) ∧ ∀ m, n < m → E.G l m = none
  | .map es => ∀ b, E.φ l = some b → base ≤ b ∧ ∃ ms clock, w.heap[b]? = some (.map ms clock) ∧ MapRel E l es ms clock
  | .mark k => ∀ b, E.φ l = some b → base ≤ b ∧ ∃ o, w.heap[b]? = some o ∧ markIs E k o
  | .iter m => ∀ b, E.φ l = some b → base ≤ b ∧ ∃ r ck, E.φ m = some r ∧ w.heap[b]? = some (.mapIter (some r) ck #[] ck)

structure Good (E : Env) (H : AHeap) (w0 w : World) : Prop where
  below : Below w0.heap.size w0 w
  snap : ∀ {b o u}, E.S b o = some u → w.cell? ⟨b, o, none⟩ = some u
  obj : ∀ {l o}, H[l]? = some o → ObjRel E l o w0.heap.size w
  sep : ∀ {l l' b}, owns E H l b → owns E H l' b → l = l'
  fresh : ∀ {l}, H.length ≤ l → E.φ l = none ∧ ∀ n, E.G l n = none
  φlt : ∀ {l b}, E.φ l = some b → b < w.heap.size

/-- How a state has gone on: n0: how many labels there were; W: which of these may have been written. -/
structure Ext (n0 : Nat) (W : Nat → Prop) (E : Env) (H : AHeap) (w : World) (E' : Env) (H' : AHeap) (w' : World) : Prop where
  le : E.le E'
  size : w.heap.size ≤ w'.heap.size
  len : H.length ≤ H'.length
  same : ∀ {l}, l < n0 → ¬ W l → H'[l]? = H[l]?
  keep : ∀ {l b}, l < n0 → ¬ W l → owns E H l b → w'.heap[b]? = w.heap[b]?
  old : ∀ {l}, l < H.length → E'.φ l = E.φ l
  stay : ∀ {b}, b < w.heap.size → (∀ l, ¬ owns E H l b) → w'.heap[b]? = w.heap[b]? ∧ (∀ l, ¬ owns E' H' l b) ∧ ∀ o, E'.S b o = E.S b o

theorem Ext.refl (n0 : Nat) (W : Nat → Prop) (E : Env) (H : AHeap) (w : World) : Ext n0 W E H w E H w :=
  ⟨.refl E, Nat.le_refl _, Nat.le_refl _, fun _ _ => rfl, fun _ _ _ => rfl, fun _ => rfl, fun _ h => ⟨rfl, h, fun _ => rfl⟩⟩

theorem owns.step {E E' : Env} {H H' : AHeap} {l b : Nat} (h : owns E H l b) (he : E.le E') (hs : H'[l]? = H[l]?) : owns E' H' l b := by
  unfold owns at *
  rw [hs]
  generalize H[l]? = o at *
  cases o with
  | none => exact h
  | some o =>
    cases o with
    | dead => exact h
    | cells cs => exact he.φ h
    | tail n sz => obtain ⟨c, hc⟩ := h; exact ⟨c, he.G hc⟩
    | map es => exact he.φ h
    | iter m => exact he.φ h
    | mark k => exact he.φ h

theorem Ext.trans {n0 : Nat} {W : Nat → Prop} {E E' E'' : Env} {H H' H'' : AHeap} {w w' w'' : World} (h : Ext n0 W E H w E' H' w') (k : Ext n0 W E' H' w' E'' H'' w'') : Ext n0 W E H w E'' H'' w'' :=
  ⟨h.le.trans k.le, Nat.le_trans h.size k.size, Nat.le_trans h.len k.len, fun hl hw => (k.same hl hw).trans (h.same hl hw),
   fun hl hw ho => (k.keep hl hw (ho.step h.le (h.same hl hw))).trans (h.keep hl hw ho), fun hl => (k.old (Nat.lt_of_lt_of_le hl h.len)).trans (h.old hl),
   fun hb h0 => ⟨(k.stay (Nat.lt_of_lt_of_le hb h.size) (h.stay hb h0).2.1).1.trans (h.stay hb h0).1, (k.stay (Nat.lt_of_lt_of_le hb h.size) (h.stay hb h0).2.1).2.1, fun o => ((k.stay (Nat.lt_of_lt_of_le hb h.size) (h.stay hb h0).2.1).2.2 o).trans ((h.stay hb h0).2.2 o)⟩⟩

/-- A smaller part, more that may be written. -/
theorem Ext.weaken {n0 n1 : Nat} {W W1 : Nat → Prop} {E E' : Env} {H H' : AHeap} {w w' : World} (h : Ext n0 W E H w E' H' w') (hn : n1 ≤ n0) (hW : ∀ l, l < n1 → W l → W1 l) : Ext n1 W1 E H w E' H' w' :=
  ⟨h.le, h.size, h.len, fun hl hw => h.same (by omega) (fun x => hw (hW _ hl x)), fun hl hw ho => h.keep (by omega) (fun x => hw (hW _ hl x)) ho, h.old, h.stay⟩

def RelL (E : Env) (xs : List AV) (vs : Array Value) : Prop := vs.size = xs.length ∧ ∀ i x, xs[i]? = some x → Rel E x (vs.getD i undef)
theorem RelL.mono {E E' : Env} (he : E.le E') {T : List AV} {tmps : Array Value} (h : RelL E T tmps) : RelL E' T tmps := ⟨h.1, fun i x hx => (h.2 i x hx).mono he⟩

end Go.Proofs.YtiipaliigpkfhaaGreat.Ab

/- Part 2: operands, one operation, a row of operations in the order of the text, code, calls: what each means abstractly, and how they are put together. -/
set_option linter.unusedVariables false
namespace Go.Proofs.YtiipaliigpkfhaaGreat.Ab
open Go Go.RowKit

def pureEval {α : Type} (P : Program) : Sem α → Option α
  | .pure a => some a
  | .program k => pureEval P (k P)
  | .mark _ k => pureEval P k
  | _ => none

theorem pureEval_run {α : Type} {P : Program} {s : Sem α} {x : α} : pureEval P s = some x → ∀ w, s.run P w = .ok x w := by
  induction s with
  | pure a => intro h w; simp only [pureEval, Option.some.injEq] at h; subst h; rfl
  | program k ih => intro h w; simp only [pureEval] at h; simp only [Sem.run]; exact ih P h w
  | mark m k ih => intro h w; simp only [pureEval] at h; simp only [Sem.run]; exact ih h w
  | _ => intro h w; simp [pureEval] at h

/-! ### Values -/
def AV.cells : AV → List AV
  | .agg cs => cs
  | x => [x]

mutual
def constA : Value → AV
  | .slice none 0 0 => .rsl true 0 0 (fun _ => []) .tight
  | .agg us => .agg (constAs us.toList)
  | v => if plain v then .sc v else .any
def constAs : List Value → List AV
  | [] => []
  | v :: r => constA v :: constAs r
end

theorem constAs_get (us : List Value) : ∀ (j : Nat), (constAs us)[j]? = us[j]?.map constA := by
  induction us with
  | nil => intro j; simp [constAs]
  | cons v r ih =>
    intro j
    cases j with
    | zero => simp [constAs]
    | succ j => simp [constAs, ih j]

theorem constAs_length (us : List Value) : (constAs us).length = us.length := by
  induction us with
  | nil => rfl
  | cons v r ih => simp [constAs, ih]

theorem rel_plain {E : Env} {v : Value} : Rel E (if plain v then .sc v else .any) v := by
  by_cases h : plain v = true
  · rw [if_pos h]; exact .sc v h
  · rw [if_neg h]; exact .any v

theorem constA_rel (E : Env) : ∀ (n : Nat) (v : Value), SizeOf.sizeOf v < n → Rel E (constA v) v
  | 0, v, h => absurd h (Nat.not_lt_zero _)
  | n + 1, v, h => by
    unfold constA
    split
    · exact .rnil 0 _ _ (.inr rfl)
    · rename_i us
      refine .agg _ us (by simp [constAs_length]) (fun j x hj => ?_)
      rw [constAs_get] at hj
      cases hu : us.toList[j]? with
      | none => rw [hu] at hj; cases hj
      | some u =>
        rw [hu] at hj
        simp only [Option.map_some, Option.some.injEq] at hj
        subst hj
        have hj' : us[j]? = some u := by simpa using hu
        have e : us.getD j undef = u := by simp [Array.getD_eq_getD_getElem?, hj']
        rw [e]
        refine constA_rel E n u ?_
        have hm : u ∈ us := Array.mem_of_getElem? hj'
        have := Array.sizeOf_lt_of_mem hm
        simp at h
        omega
    · exact rel_plain

def opdA (T : List AV) : Operand → AV
  | .tmp t => T.getD t .any
  | .const v => constA v
  | .global _ => .any
  | .func f => .fn (.func f) [] []

theorem opd_rel {E : Env} {T : List AV} {a : Act} (h : RelT E T a.tmps) (x : Operand) : Rel E (opdA T x) (a.eval x) := by
  cases x with
  | tmp t =>
    simp only [opdA, Act.eval]
    cases ht : T[t]? with
    | none => rw [List.getD_eq_getElem?_getD, ht]; exact .any _
    | some y => rw [List.getD_eq_getElem?_getD, ht]; exact h.2 t y ht
  | const v => exact constA_rel E _ v (Nat.lt_succ_self _)
  | global g => exact .any _
  | func f => exact .fn _ _ _ _ _ rfl rfl (fun j x hj => by simp at hj) (fun j x hj => by simp at hj)

/-- A slot is written. -/
def putA (T : List AV) (d : Option Tmp) (x : AV) : List AV :=
  match d with
  | some d => T.set d x
  | none => T

theorem put_rel {E : Env} {T : List AV} {a : Act} (h : RelT E T a.tmps) (d : Option Tmp) {x : AV} {v : Value} (hx : Rel E x v) : RelT E (putA T d x) (a.put d v).tmps := by
  cases d with
  | none => exact h
  | some d =>
    refine ⟨by simp [putA, Act.put, h.1], fun i y hy => ?_⟩
    simp only [putA, Act.put] at *
    by_cases hid : d = i
    · subst hid
      rw [List.getElem?_set_self'] at hy
      cases ht : T[d]? with
      | none => rw [ht] at hy; cases hy
      | some z =>
        rw [ht] at hy
        simp only [Functor.map, Option.map_some, Function.const, Option.some.injEq] at hy
        subst hy
        have hlt : d < a.tmps.size := by
          have := (List.getElem?_eq_some_iff.1 ht).1
          rw [h.1]; exact this
        have e : (a.tmps.setIfInBounds d v).getD d undef = v := by simp [Array.getD_eq_getD_getElem?, hlt]
        rw [e]; exact hx
    · rw [List.getElem?_set_ne hid] at hy
      have e : (a.tmps.setIfInBounds d v).getD i undef = a.tmps.getD i undef := by
        simp [Array.getD_eq_getD_getElem?, Array.getElem?_setIfInBounds_ne hid]
      rw [e]
      exact h.2 i y hy

theorem put_defers' (a : Act) (d : Option Tmp) (v : Value) : (a.put d v).defers = a.defers := by cases d <;> rfl

/-! ### One operation -/
/-- Its operands, told. -/
def RelO (E : Env) (T : List AV) (o : Oper) (ρ : Operand → Value) : Prop := ∀ x, x ∈ o.op.operands → Rel E (opdA T x) (ρ x)

theorem RelT.o {E : Env} {T : List AV} {a : Act} (h : RelT E T a.tmps) (o : Oper) : RelO E T o a.eval := fun x _ => opd_rel h x

/-- What an operation leaves. -/
def OpR (P : Program) (o : Oper) (ρ : Operand → Value) (w : World) (K : Value → World → Prop) : Prop :=
  match (execOp ρ o).run P w with
  | .ok (.value v) w' => K v w'
  | .ok .skip w' => K undef w'
  | .ok (.enter f args) w' => Calls P f args w' fun
      | .returned v, w'' => K v w''
      | _, _ => False
  | _ => False

theorem OpR.wp {P : Program} {o : Oper} {a : Act} {w : World} {K : Value → World → Prop} {next : Act → World → Prop} {Q : Exit → Act → World → Prop} (h : OpR P o a.eval w K) (hk : ∀ v w', K v w' → next (a.put o.dst v) w') : o.wp P a w next Q := by
  unfold OpR at h
  unfold Oper.wp
  split at h
  · rename_i v w' hr; rw [hr]; exact hk _ _ h
  · rename_i w' hr; rw [hr]; exact hk _ _ h
  · rename_i f args w' hr
    rw [hr, Oper.upon_enter]
    refine h.mono ?_
    intro e w'' he
    cases e with
    | returned v => exact hk _ _ he
    | panicked c => exact he.elim
    | outgrown => exact he.elim
  · exact h.elim

theorem OpR.congr {P : Program} {o : Oper} {ρ ρ' : Operand → Value} {w : World} {K : Value → World → Prop} (h : OpR P o ρ w K) (hs : ∀ cs b, o.op ≠ .select cs b) (he : ∀ x ∈ o.op.operands, ρ' x = ρ x) : OpR P o ρ' w K := by
  unfold OpR at *
  rw [execOp_congr o hs he]
  exact h

def OpA (P : Program) (o : Oper) (T : List AV) (H : AHeap) (x : AV) (H' : AHeap) (Wr : List Nat) : Prop :=
  ∀ (E : Env) (w0 w : World) (ρ : Operand → Value), Good E H w0 w → RelO E T o ρ →
    OpR P o ρ w fun v w' => ∃ E', Ext H.length (· ∈ Wr) E H w E' H' w' ∧ Good E' H' w0 w' ∧ Rel E' x v

/-- Is an operation wanted? -/
def yieldedA (ops : Array Oper) (T : List AV) (j : Nat) : Option (Option Bool) :=
  match ((ops[j]?).bind (·.dst)).bind (T[·]?) with
  | some (.sc (.bool b)) => some (some b)
  | some (.tup _) => some none
  | _ => none

/-- What an operation leaves that was not wanted. -/
def skipA : AV := .tup []
theorem skip_rel (E : Env) : Rel E skipA undef := .tup [] #[] rfl (fun j x hj => by simp at hj)

def wantedA (ops : Array Oper) (T : List AV) (o : Oper) : Option Bool :=
  match o.guard with
  | none => some true
  | some (j, want) => (yieldedA ops T j).map (· == some want)

theorem yielded_eq {E : Env} {T : List AV} {a : Act} {ops : Array Oper} (h : RelT E T a.tmps) {j : Nat} {b : Option Bool} (hy : yieldedA ops T j = some b) : yielded ops a.tmps j = b := by
  unfold yieldedA at hy
  unfold yielded
  cases hd : (ops[j]?).bind (·.dst) with
  | none => rw [hd] at hy; simp at hy
  | some d =>
    rw [hd] at hy
    simp only [Option.bind_some] at hy ⊢
    cases ht : T[d]? with
    | none => rw [ht] at hy; simp at hy
    | some x =>
      rw [ht] at hy
      have hlt : d < a.tmps.size := by rw [h.1]; exact (List.getElem?_eq_some_iff.1 ht).1
      have hr := h.2 d x ht
      have e : a.tmps[d]? = some (a.tmps.getD d undef) := by simp [Array.getD_eq_getD_getElem?, hlt]
      rw [e]
      generalize a.tmps.getD d undef = v at hr
      cases hr with
      | sc v hp => cases v <;> simp at hy ⊢; exact hy
      | tup cs us h k => simp at hy; exact hy
      | _ => simp at hy

theorem wanted_eq {E : Env} {T : List AV} {a : Act} {ops : Array Oper} (h : RelT E T a.tmps) {o : Oper} {b : Bool} (hw : wantedA ops T o = some b) : Region.wanted o (yielded ops a.tmps) = b := by
  unfold wantedA at hw
  unfold Region.wanted
  cases hg : o.guard with
  | none => rw [hg] at hw; simp at hw; simp [hw]
  | some g =>
    obtain ⟨j, want⟩ := g
    rw [hg] at hw
    simp only [Option.map_eq_some_iff] at hw
    obtain ⟨y, hy, rfl⟩ := hw
    simp only [yielded_eq h hy]
    try rfl

/-- Operations one behind the other. -/
inductive RunA (P : Program) (ops : Array Oper) : List Nat → List AV → AHeap → List AV → AHeap → List Nat → Prop where
  | nil (T : List AV) (H : AHeap) : RunA P ops [] T H T H []
  | skip {i : Nat} {rest : List Nat} {o : Oper} {T T' : List AV} {H H' : AHeap} {W : List Nat} (ho : ops[i]? = some o) (hw : wantedA ops T o = some false)
      (hr : RunA P ops rest (putA T o.dst skipA) H T' H' W) : RunA P ops (i :: rest) T H T' H' W
  | step {i : Nat} {rest : List Nat} {o : Oper} {x : AV} {T T' : List AV} {H H1 H' : AHeap} {W1 W : List Nat} (ho : ops[i]? = some o) (hw : wantedA ops T o = some true)
      (hs : OpA P o T H x H1 W1) (hr : RunA P ops rest (putA T o.dst x) H1 T' H' W) : RunA P ops (i :: rest) T H T' H' (W1 ++ W)

theorem RunA.len {P : Program} {ops : Array Oper} {is : List Nat} {T T' : List AV} {H H' : AHeap} {W : List Nat} (h : RunA P ops is T H T' H' W) : T'.length = T.length := by
  induction h with
  | nil => rfl
  | @skip i rest o T T' H H' W ho hw hr ih => rw [ih]; cases o.dst <;> simp [putA]
  | @step i rest o x T T' H H1 H' W1 W ho hw hs hr ih => rw [ih]; cases o.dst <;> simp [putA]

theorem RunA.sound {P : Program} {ops : Array Oper} {Q : Exit → Act → World → Prop} {is : List Nat} {T T' : List AV} {H H' : AHeap} {W : List Nat} (h : RunA P ops is T H T' H' W) :
    ∀ {n0 : Nat} {E : Env} {w0 w : World} {a : Act}, n0 ≤ H.length → Good E H w0 w → RelT E T a.tmps →
      (∀ (E' : Env) (a' : Act) (w' : World), Ext n0 (· ∈ W) E H w E' H' w' → Good E' H' w0 w' → RelT E' T' a'.tmps → a'.defers = a.defers → Q .normal a' w') →
      wpOps P ops Q is a w := by
  induction h with
  | nil T H =>
    intro n0 E w0 w a hn hg ht hk
    exact hk E a w (.refl _ _ _ _ _) hg ht rfl
  | @skip i rest o T T' H H' W ho hw hr ih =>
    intro n0 E w0 w a hn hg ht hk
    simp only [wpOps, ho, wanted_eq ht hw, if_false, Bool.false_eq_true]
    refine ih hn hg (put_rel ht o.dst (skip_rel _)) (fun E' a' w' he hg' ht' hd => ?_)
    exact hk E' a' w' he hg' ht' (hd.trans (put_defers' _ _ _))
  | @step i rest o x T T' H H1 H' W1 W ho hw hs hr ih =>
    intro n0 E w0 w a hn hg ht hk
    simp only [wpOps, ho, wanted_eq ht hw, if_true]
    refine .inl ((hs E w0 w a.eval hg (ht.o o)).wp ?_)
    rintro v w' ⟨E', he, hg', hv⟩
    refine ih (Nat.le_trans hn he.len) hg' (put_rel (ht.mono he.le) o.dst hv) (fun E2 a2 w2 he2 hg2 ht2 hd => ?_)
    refine hk E2 a2 w2 ?_ hg2 ht2 (hd.trans (put_defers' _ _ _))
    exact (he.weaken hn (fun l _ hl => List.mem_append_left _ hl)).trans (he2.weaken (Nat.le_refl _) (fun l _ hl => List.mem_append_right _ hl))

/-! ### Code -/
inductive AExit where
  | normal
  | exit (id : Nat)
  | goto (l : Nat)
  | ret
  | panic (x : AV)

inductive RelX (E : Env) : AExit → Exit → Prop where
  | normal : RelX E .normal .normal
  | exit (id : Nat) : RelX E (.exit id) (.exit id)
  | goto (l : Nat) : RelX E (.goto l) (.goto l)
  | ret : RelX E .ret .ret
  | panic (x : AV) (v : Value) (h : Rel E x v) : RelX E (.panic x) (.panic [{ v, recovered := false }])

/-- What a piece of code leaves. -/
def PostA (n0 : Nat) (W : Nat → Prop) (Q : AExit → List AV → AHeap → Prop) (E : Env) (H : AHeap) (w0 w : World) (D : List Deferred) : Exit → Act → World → Prop :=
  fun e a' w' => ∃ E' x T' H', Q x T' H' ∧ RelX E' x e ∧ Ext n0 W E H w E' H' w' ∧ Good E' H' w0 w' ∧ RelT E' T' a'.tmps ∧ a'.defers = D

def wpA (P : Program) (n0 : Nat) (W : Nat → Prop) (c : Code) (Q : AExit → List AV → AHeap → Prop) (T : List AV) (H : AHeap) : Prop :=
  ∀ (E : Env) (w0 w : World) (a : Act) (D : List Deferred), n0 ≤ H.length → Good E H w0 w → RelT E T a.tmps → a.defers = D → c.wp P (PostA n0 W Q E H w0 w D) a w

section
variable {P : Program} {n0 : Nat} {W : Nat → Prop} {Q : AExit → List AV → AHeap → Prop} {T : List AV} {H : AHeap}

theorem wpA_mono {c : Code} {Q' : AExit → List AV → AHeap → Prop} (h : wpA P n0 W c Q T H) (hq : ∀ x T H, Q x T H → Q' x T H) : wpA P n0 W c Q' T H :=
  fun E w0 w a D hn hg ht hd => wp_mono (h E w0 w a D hn hg ht hd) (fun _ _ _ ⟨E', x, T', H', q, r⟩ => ⟨E', x, T', H', hq _ _ _ q, r⟩)

theorem wpA_skip (h : Q .normal T H) : wpA P n0 W .skip Q T H :=
  fun E w0 w a D hn hg ht hd => wp_skip ⟨E, _, T, H, h, .normal, .refl _ _ _ _ _, hg, ht, hd⟩
theorem wpA_label {l : Nat} (h : Q .normal T H) : wpA P n0 W (.label l) Q T H :=
  fun E w0 w a D hn hg ht hd => wp_label ⟨E, _, T, H, h, .normal, .refl _ _ _ _ _, hg, ht, hd⟩
theorem wpA_exit {id : Nat} (h : Q (.exit id) T H) : wpA P n0 W (.exit id) Q T H :=
  fun E w0 w a D hn hg ht hd => wp_exit ⟨E, _, T, H, h, .exit id, .refl _ _ _ _ _, hg, ht, hd⟩
theorem wpA_goto {l : Nat} (h : Q (.goto l) T H) : wpA P n0 W (.goto l) Q T H :=
  fun E w0 w a D hn hg ht hd => wp_goto ⟨E, _, T, H, h, .goto l, .refl _ _ _ _ _, hg, ht, hd⟩
theorem wpA_ret (h : Q .ret T H) : wpA P n0 W .ret Q T H :=
  fun E w0 w a D hn hg ht hd => wp_ret ⟨E, _, T, H, h, .ret, .refl _ _ _ _ _, hg, ht, hd⟩

theorem wpA_region {id : Nat} {ops : Array Oper} {T' : List AV} {H' : AHeap} {Wr : List Nat} (hr : RunA P ops (List.range ops.size) T H T' H' Wr) (hW : ∀ l, l ∈ Wr → l < n0 → W l) (h : Q .normal T' H') :
    wpA P n0 W (.region id ops false) Q T H :=
  fun E w0 w a D hn hg ht hd => wp_region (hr.sound hn hg ht (fun E' a' w' he hg' ht' hd' =>
    ⟨E', _, T', H', h, .normal, he.weaken (Nat.le_refl _) (fun l hl hm => hW l hm hl), hg', ht', hd'.trans hd⟩))


def AExit.then (K : List AV → AHeap → Prop) (Q : AExit → List AV → AHeap → Prop) : AExit → List AV → AHeap → Prop
  | .normal, T, H => K T H
  | x, T, H => Q x T H

def AExit.inBlock (id : Nat) (Q : AExit → List AV → AHeap → Prop) : AExit → List AV → AHeap → Prop
  | .exit i, T, H => if i = id then Q .normal T H else Q (.exit i) T H
  | x, T, H => Q x T H

/-- What one piece leaves, the next goes on from. -/
theorem PostA.chain {E E' : Env} {H' : AHeap} {w0 w w' : World} (hx : Ext n0 W E H w E' H' w') {e : Exit} {a : Act} {w'' : World} {D : List Deferred} (h : PostA n0 W Q E' H' w0 w' D e a w'') : PostA n0 W Q E H w0 w D e a w'' := by
  obtain ⟨E2, x, T2, H2, q, r, ex, g, t, d⟩ := h
  exact ⟨E2, x, T2, H2, q, r, hx.trans ex, g, t, d⟩

theorem wpA_seq {x y : Code} (h : wpA P n0 W x (AExit.then (fun T H => wpA P n0 W y Q T H) Q) T H) : wpA P n0 W (.seq x y) Q T H := by
  intro E w0 w a D hn hg ht hd
  refine wp_seq (wp_mono (h E w0 w a D hn hg ht hd) ?_)
  rintro e a' w' ⟨E', ax, T', H', q, r, ex, g, t, d⟩
  cases r with
  | normal => exact wp_mono (q E' w0 w' a' D (Nat.le_trans hn ex.len) g t d) (fun e a w hp => hp.chain ex)
  | exit id => exact ⟨E', _, T', H', q, .exit id, ex, g, t, d⟩
  | goto l => exact ⟨E', _, T', H', q, .goto l, ex, g, t, d⟩
  | ret => exact ⟨E', _, T', H', q, .ret, ex, g, t, d⟩
  | panic x v hv => exact ⟨E', _, T', H', q, .panic x v hv, ex, g, t, d⟩

theorem wpA_cond {c : Operand} {x y : Code} {b : Bool} (hc : opdA T c = .sc (.bool b)) (h : wpA P n0 W (if b then x else y) Q T H) : wpA P n0 W (.cond c x y) Q T H := by
  intro E w0 w a D hn hg ht hd
  have hr := opd_rel ht c
  rw [hc] at hr
  generalize hv : a.eval c = v at hr
  cases hr with
  | sc v hp => exact wp_cond hv (h E w0 w a D hn hg ht hd)

theorem wpA_block {id : Nat} {c : Code} (h : wpA P n0 W c (AExit.inBlock id Q) T H) : wpA P n0 W (.block id c) Q T H := by
  intro E w0 w a D hn hg ht hd
  refine wp_block (wp_mono (h E w0 w a D hn hg ht hd) ?_)
  rintro e a' w' ⟨E', ax, T', H', q, r, ex, g, t, d⟩
  cases r with
  | normal => exact ⟨E', _, T', H', q, .normal, ex, g, t, d⟩
  | exit i =>
    by_cases hi : i = id
    · simp only [Exit.inBlock, hi, if_true]
      simp only [AExit.inBlock, hi, if_true] at q
      exact ⟨E', _, T', H', q, .normal, ex, g, t, d⟩
    · simp only [Exit.inBlock, hi, if_false]
      simp only [AExit.inBlock, hi, if_false] at q
      exact ⟨E', _, T', H', q, .exit i, ex, g, t, d⟩
  | goto l => exact ⟨E', _, T', H', q, .goto l, ex, g, t, d⟩
  | ret => exact ⟨E', _, T', H', q, .ret, ex, g, t, d⟩
  | panic x v hv => exact ⟨E', _, T', H', q, .panic x v hv, ex, g, t, d⟩

/-- A loop by an invariant and a measure. -/
theorem wpA_loop {c : Code} (I : Nat → List AV → AHeap → Prop) (m : Nat) (h0 : I m T H)
    (round : ∀ m T H, I m T H → wpA P n0 W c (AExit.then (fun T' H' => ∃ m', m' < m ∧ I m' T' H') Q) T H) : wpA P n0 W (.loop c) Q T H := by
  intro E w0 w a D hn hg ht hd b k cs
  have key : ∀ (m : Nat) (T : List AV) (H' : AHeap) (E' : Env) (w' : World) (a : Act), I m T H' → Ext n0 W E H w E' H' w' → Good E' H' w0 w' → RelT E' T a.tmps → a.defers = D →
      ∃ e a' w'', PostA n0 W Q E H w0 w D e a' w'' ∧ Arrives P (lone (b.at a (.code c :: .inLoop c :: k)) cs w') b k cs e a' w'' := by
    intro m
    induction m using Nat.strongRecOn with
    | _ m ih =>
      intro T H' E' w' a hi ex hg ht hd
      obtain ⟨e, a1, w1, hp, harr⟩ := round m T H' hi E' w0 w' a D (Nat.le_trans hn ex.len) hg ht hd b (.inLoop c :: k) cs
      obtain ⟨E2, ax, T2, H2, q, r, ex2, g2, t2, d2⟩ := hp
      cases r with
      | normal =>
        obtain ⟨m', hm, hi'⟩ := q
        obtain ⟨e3, a3, w3, hp3, harr3⟩ := ih m' hm T2 H2 E2 w1 a1 hi' (ex.trans ex2) g2 t2 d2
        refine ⟨e3, a3, w3, hp3, .of_steps (Steps.trans harr (.one step_inLoop)) harr3⟩
      | exit i => exact ⟨_, a1, w1, ⟨E2, _, T2, H2, q, .exit i, ex.trans ex2, g2, t2, d2⟩, .pass (x := .inLoop c) rfl (fun _ _ => .inl (by simp)) harr⟩
      | goto l => exact ⟨_, a1, w1, ⟨E2, _, T2, H2, q, .goto l, ex.trans ex2, g2, t2, d2⟩, .pass (x := .inLoop c) rfl (fun _ _ => .inl (by simp)) harr⟩
      | ret => exact ⟨_, a1, w1, ⟨E2, _, T2, H2, q, .ret, ex.trans ex2, g2, t2, d2⟩, .pass (x := .inLoop c) rfl (fun _ _ => .inl (by simp)) harr⟩
      | panic x v hv => exact ⟨_, a1, w1, ⟨E2, _, T2, H2, q, .panic x v hv, ex.trans ex2, g2, t2, d2⟩, .pass (x := .inLoop c) rfl (fun _ _ => .inl (by simp)) harr⟩
  obtain ⟨e, a', w', hp, harr⟩ := key m T H E w a h0 (.refl _ _ _ _ _) hg ht hd
  exact ⟨e, a', w', hp, .of_steps (.one step_loop) harr⟩

/-- Within a scope: by a jump, on from a label. -/
def AExit.jump (c : Code) (K : Code → List AV → AHeap → Prop) (Q : AExit → List AV → AHeap → Prop) : AExit → List AV → AHeap → Prop
  | .goto l, T, H => ∃ rest, findLabel c l = some rest ∧ K rest T H
  | x, T, H => Q x T H

/-- A scope by an invariant and a measure. -/
theorem wpA_scope {c : Code} (I : Nat → Code → List AV → AHeap → Prop) (m : Nat) (h0 : I m c T H)
    (round : ∀ m d T H, I m d T H → wpA P n0 W d (AExit.jump c (fun rest T' H' => ∃ m', m' < m ∧ I m' rest T' H') Q) T H) : wpA P n0 W (.scope c) Q T H := by
  intro E w0 w a D hn hg ht hd b k cs
  have key : ∀ (m : Nat) (d : Code) (T : List AV) (H' : AHeap) (E' : Env) (w' : World) (a : Act), I m d T H' → Ext n0 W E H w E' H' w' → Good E' H' w0 w' → RelT E' T a.tmps → a.defers = D →
      ∃ e a' w'', PostA n0 W Q E H w0 w D e a' w'' ∧ Arrives P (lone (b.at a (.code d :: .inScope c :: k)) cs w') b k cs e a' w'' := by
    intro m
    induction m using Nat.strongRecOn with
    | _ m ih =>
      intro d T H' E' w' a hi ex hg ht hd
      obtain ⟨e, a1, w1, hp, harr⟩ := round m d T H' hi E' w0 w' a D (Nat.le_trans hn ex.len) hg ht hd b (.inScope c :: k) cs
      obtain ⟨E2, ax, T2, H2, q, r, ex2, g2, t2, d2⟩ := hp
      cases r with
      | normal => exact ⟨.normal, a1, w1, ⟨E2, _, T2, H2, q, .normal, ex.trans ex2, g2, t2, d2⟩, Steps.trans harr (.one step_inScope)⟩
      | exit i => exact ⟨.exit i, a1, w1, ⟨E2, _, T2, H2, q, .exit i, ex.trans ex2, g2, t2, d2⟩, fun k' hk => harr k' (by simp [exitTo, hk])⟩
      | goto l =>
        obtain ⟨rest, hf, m', hm, hi'⟩ := q
        obtain ⟨e3, a3, w3, hp3, harr3⟩ := ih m' hm rest T2 H2 E2 w1 a1 hi' (ex.trans ex2) g2 t2 d2
        exact ⟨e3, a3, w3, hp3, .of_steps (harr _ (by simp [gotoIn, hf])) harr3⟩
      | ret => exact ⟨_, a1, w1, ⟨E2, _, T2, H2, q, .ret, ex.trans ex2, g2, t2, d2⟩, harr⟩
      | panic x v hv => exact ⟨_, a1, w1, ⟨E2, _, T2, H2, q, .panic x v hv, ex.trans ex2, g2, t2, d2⟩, harr⟩
  obtain ⟨e, a', w', hp, harr⟩ := key m c T H E w a h0 (.refl _ _ _ _ _) hg ht hd
  exact ⟨e, a', w', hp, .of_steps (.one step_scope) harr⟩

end
end Go.Proofs.YtiipaliigpkfhaaGreat.Ab

/- Part 3: memory: new blocks, labels taken, cells that stay, stores. -/
set_option linter.unusedVariables false
namespace Go.Proofs.YtiipaliigpkfhaaGreat.Ab
open Go Go.RowKit

theorem cell_lt {w : World} {b o : Nat} {u : Value} (h : w.cell? ⟨b, o, none⟩ = some u) : b < w.heap.size := by
  unfold World.cell? at h
  cases hb : w.heap[b]? with
  | none => simp [hb] at h
  | some x => exact (Array.getElem?_eq_some_iff.1 hb).1

theorem cell_same {w w' : World} {b o : Nat} (h : w'.heap[b]? = w.heap[b]?) : w'.cell? ⟨b, o, none⟩ = w.cell? ⟨b, o, none⟩ := by
  unfold World.cell?
  rw [h]

theorem cell_at {w : World} {b o : Nat} {arr : Array Value} {T : TypeId} (h : w.heap[b]? = some (.cells arr T (0, 0))) : w.cell? ⟨b, o, none⟩ = arr[o]? := by
  unfold World.cell?
  simp [h]

theorem alloc_size (w : World) (o : Obj) : (w.alloc o).heap.size = w.heap.size + 1 := by
  show (w.heap.push o).size = _
  simp

theorem frozen_at {w : World} {b o : Nat} {arr : Array Value} {T : TypeId} (h : w.heap[b]? = some (.cells arr T (0, 0))) : w.frozen? ⟨b, o, none⟩ = false := by
  unfold World.frozen?
  simp [h]

section
variable {E : Env} {H : AHeap} {w0 w : World}

theorem Good.Slt (g : Good E H w0 w) {b o : Nat} {u : Value} (h : E.S b o = some u) : b < w.heap.size := cell_lt (g.snap h)

theorem Good.ownlt (g : Good E H w0 w) {l b : Nat} (h : owns E H l b) : b < w.heap.size := by
  unfold owns at h
  cases ho : H[l]? with
  | none => rw [ho] at h; exact h.elim
  | some o =>
    rw [ho] at h
    cases o with
    | dead => exact h.elim
    | cells cs => exact g.φlt h
    | map es => exact g.φlt h
    | iter m => exact g.φlt h
    | mark k => exact g.φlt h
    | tail n sz =>
      obtain ⟨c, hc⟩ := h
      obtain ⟨b', c', arr, T, h1, h2, h3, _⟩ := g.obj ho
      rw [hc] at h1
      simp only [Option.some.injEq, Prod.mk.injEq] at h1
      rw [h1.1]
      exact (Array.getElem?_eq_some_iff.1 h3).1

theorem Good.ownbase (g : Good E H w0 w) {l b : Nat} (h : owns E H l b) : w0.heap.size ≤ b := by
  unfold owns at h
  cases ho : H[l]? with
  | none => rw [ho] at h; exact h.elim
  | some o =>
    rw [ho] at h
    cases o with
    | dead => exact h.elim
    | cells cs => exact (g.obj ho b h).1
    | map es => exact (g.obj ho b h).1
    | iter m => exact (g.obj ho b h).1
    | mark k => exact (g.obj ho b h).1
    | tail n sz =>
      obtain ⟨c, hc⟩ := h
      obtain ⟨b', c', arr, T, h1, h2, h3, _⟩ := g.obj ho
      rw [hc] at h1
      simp only [Option.some.injEq, Prod.mk.injEq] at h1
      rw [h1.1]
      exact h2

/-- An object is told of a later state, if its own block and its own names are as they were. -/
theorem ObjRel.step {E' : Env} {w' : World} {l base : Nat} {o : AObj} (h : ObjRel E l o base w) (ho : H[l]? = some o) (he : E.le E') (hφ : ∀ b, E'.φ l = some b → E.φ l = some b)
    (hG : ∀ n, E'.G l n = E.G l n) (hS : ∀ b c, owns E H l b → (∀ n sz, o = .tail n sz → n * sz ≤ c) → E.S b c = none → E'.S b c = none) (hw : ∀ b, owns E H l b → w'.heap[b]? = w.heap[b]?) : ObjRel E' l o base w' := by
  cases o with
  | dead => trivial
  | cells cs =>
    intro b hb
    have hb' := hφ b hb
    have hown : owns E H l b := by unfold owns; rw [ho]; exact hb'
    obtain ⟨h1, h2, arr, T, h3, h4⟩ := h b hb'
    exact ⟨h1, fun c => hS b c hown (fun _ _ e => by cases e) (h2 c), arr, T, (hw b hown).trans h3, fun j x hj => let ⟨u, hu, hr⟩ := h4 j x hj; ⟨u, hu, hr.mono he⟩⟩
  | map es =>
    intro b hb
    have hb' := hφ b hb
    have hown : owns E H l b := by unfold owns; rw [ho]; exact hb'
    obtain ⟨h1, ms, ck, h3, h4, h5, h6, h7, h8⟩ := h b hb'
    exact ⟨h1, ms, ck, (hw b hown).trans h3, h4, fun j x hj => let ⟨m, hu, hr, hr2⟩ := h5 j x hj; ⟨m, hu, hr, hr2.mono he⟩, h6, h7, fun i x hx => h8 i x (by rw [← hG i]; exact hx)⟩
  | iter m =>
    intro b hb
    have hb' := hφ b hb
    have hown : owns E H l b := by unfold owns; rw [ho]; exact hb'
    obtain ⟨h1, r, ck, h2, h3⟩ := h b hb'
    exact ⟨h1, r, ck, he.φ h2, (hw b hown).trans h3⟩
  | mark k =>
    intro b hb
    have hb' := hφ b hb
    have hown : owns E H l b := by unfold owns; rw [ho]; exact hb'
    obtain ⟨h1, r, h2, h3⟩ := h b hb'
    exact ⟨h1, r, (hw b hown).trans h2, h3.mono he⟩
  | tail n sz =>
    obtain ⟨b, c, arr, T, h1, h2, h3, h4, h5, h6, h7, h8⟩ := h
    have hown : owns E H l b := by unfold owns; rw [ho]; exact ⟨c, h1⟩
    exact ⟨b, c, arr, T, (hG n).trans h1, h2, (hw b hown).trans h3, h4, h5, h6, fun o ho => hS b o hown (fun _ _ e => by cases e; exact ho) (h7 o ho), fun m hm => (hG m).trans (h8 m hm)⟩

/-- A new block that is nobody's. -/
theorem Good.push (g : Good E H w0 w) (o : Obj) : Good E H w0 (w.alloc o) where
  below := g.below.alloc g.below.size o
  snap := fun {b c u} h => by
    have hlt := g.Slt h
    rw [cell_same (Below.heap_alloc w o b hlt)]
    exact g.snap h
  obj := fun {l x} h => (g.obj h).step h (.refl E) (fun _ h => h) (fun _ => rfl) (fun _ _ _ _ h => h) (fun b hb => Below.heap_alloc w o b (g.ownlt hb))
  sep := g.sep
  fresh := g.fresh
  φlt := fun {l b} h => by have := g.φlt h; rw [alloc_size]; omega

theorem push_ext (n0 : Nat) (W : Nat → Prop) (g : Good E H w0 w) (o : Obj) : Ext n0 W E H w E H (w.alloc o) :=
  ⟨.refl E, by rw [alloc_size]; omega, Nat.le_refl _, fun _ _ => rfl, fun _ _ ho => Below.heap_alloc w o _ (g.ownlt ho), fun _ => rfl, fun hb h => ⟨Below.heap_alloc w o _ hb, h, fun _ => rfl⟩⟩

def Env.withφ (E : Env) (l b : Nat) : Env := { E with φ := fun x => if x = l then some b else E.φ x }

theorem Env.withφ_le {l b : Nat} (h : E.φ l = none) : E.le (E.withφ l b) :=
  ⟨fun {x c} hx => by
    have : x ≠ l := fun e => by subst e; rw [h] at hx; cases hx
    simpa [Env.withφ, this] using hx, fun h => h, fun h => h⟩

theorem withφ_self (E : Env) (l b : Nat) : (E.withφ l b).φ l = some b := by simp [Env.withφ]
theorem withφ_ne (E : Env) {l b x : Nat} (h : x ≠ l) : (E.withφ l b).φ x = E.φ x := by simp [Env.withφ, h]

/-- What a label owns after another one has been given a block. -/
theorem owns_withφ {l b : Nat} {o : AObj} {x c : Nat} (hx : x < H.length) (hne : x ≠ l) (h : owns (E.withφ l b) (H ++ [o]) x c) : owns E H x c := by
  unfold owns at *
  rw [List.getElem?_append_left hx] at h
  rw [withφ_ne E hne] at h
  exact h

/-- A block that is nobody's is given to a new label. -/
theorem Good.adopt (g : Good E H w0 w) {b : Nat} {o : AObj} (hb : b < w.heap.size) (hfree : ∀ l, ¬ owns E H l b) (hok : ∀ n sz, o ≠ .tail n sz)
    (ho : ObjRel (E.withφ H.length b) H.length o w0.heap.size w) : Good (E.withφ H.length b) (H ++ [o]) w0 w := by
  have hφ := (g.fresh (Nat.le_refl H.length)).1
  have hle : E.le (E.withφ H.length b) := Env.withφ_le hφ
  refine ⟨g.below, g.snap, ?_, ?_, ?_, ?_⟩
  · intro l x h
    by_cases hl : l < H.length
    · rw [List.getElem?_append_left hl] at h
      exact (g.obj h).step h hle (fun c hc => by rwa [withφ_ne E (by omega)] at hc) (fun _ => rfl) (fun _ _ _ _ h => h) (fun _ _ => rfl)
    · have hl' : l = H.length := by
        have := (List.getElem?_eq_some_iff.1 h).1
        simp at this; omega
      subst hl'
      simp at h
      subst h
      exact ho
  · have key : ∀ x c, owns (E.withφ H.length b) (H ++ [o]) x c → (x < H.length ∧ owns E H x c) ∨ (x = H.length ∧ c = b) := by
      intro x c h
      by_cases hx : x < H.length
      · exact .inl ⟨hx, owns_withφ hx (by omega) h⟩
      · have hx' : x = H.length := by
          unfold owns at h
          cases hh : (H ++ [o])[x]? with
          | none => rw [hh] at h; exact h.elim
          | some y =>
            have := (List.getElem?_eq_some_iff.1 hh).1
            simp at this; omega
        refine .inr ⟨hx', ?_⟩
        subst hx'
        unfold owns at h
        simp only [List.getElem?_append_right (Nat.le_refl _), Nat.sub_self, List.getElem?_cons_zero, withφ_self] at h
        cases o with
        | dead => exact h.elim
        | cells cs => simp at h; exact h.symm
        | map es => simp at h; exact h.symm
        | iter m => simp at h; exact h.symm
        | mark k => simp at h; exact h.symm
        | tail n sz => exact absurd rfl (hok n sz)
    intro l l' c h h'
    rcases key _ _ h with ⟨h1, h2⟩ | ⟨h1, h2⟩ <;> rcases key _ _ h' with ⟨h3, h4⟩ | ⟨h3, h4⟩
    · exact g.sep h2 h4
    · subst h4; exact absurd h2 (hfree _)
    · subst h2; exact absurd h4 (hfree _)
    · rw [h1, h3]
  · intro l hl
    simp at hl
    have := g.fresh (l := l) (by omega)
    exact ⟨by rw [withφ_ne E (by omega)]; exact this.1, this.2⟩
  · intro l c h
    by_cases hl : l = H.length
    · subst hl; rw [withφ_self] at h; simp at h; omega
    · rw [withφ_ne E hl] at h; exact g.φlt h

theorem heap_alloc_new (w : World) (o : Obj) : (w.alloc o).heap[w.heap.size]? = some o := by
  show (w.heap.push o)[w.heap.size]? = some o
  simp

theorem S_new_none (g : Good E H w0 w) (c : Nat) : E.S w.heap.size c = none := by
  cases h : E.S w.heap.size c with
  | none => rfl
  | some u => exact absurd (g.Slt h) (Nat.lt_irrefl _)

/-- A new variable. -/
theorem Good.new (g : Good E H w0 w) {cs : List AV} {arr : Array Value} (T : TypeId) (hr : RelCells E cs arr) :
    Good (E.withφ H.length w.heap.size) (H ++ [.cells cs]) w0 (w.alloc (.cells arr T)) := by
  refine (g.push (.cells arr T)).adopt (by rw [alloc_size]; omega) (fun l ho => absurd (g.ownlt ho) (Nat.lt_irrefl _)) (fun _ _ => by simp) ?_
  intro b hb
  rw [withφ_self] at hb
  simp only [Option.some.injEq] at hb
  subst hb
  refine ⟨g.below.size, fun c => S_new_none g c, arr, T, heap_alloc_new w _, fun j x hj => ?_⟩
  obtain ⟨u, hu, h⟩ := hr j x hj
  exact ⟨u, hu, h.mono (Env.withφ_le (g.fresh (Nat.le_refl _)).1)⟩

theorem owns_new (g : Good E H w0 w) {x l b : Nat} {o : AObj} (h : owns (E.withφ H.length x) (H ++ [o]) l b) : owns E H l b ∨ b = x := by
  rcases Nat.lt_trichotomy l H.length with hl | hl | hl
  · refine .inl ?_
    have e : (E.withφ H.length x).φ l = E.φ l := withφ_ne E (by omega)
    unfold owns at h ⊢
    rw [List.getElem?_append_left hl] at h
    cases ho : H[l]? with
    | none => rw [ho] at h; exact h
    | some q =>
      rw [ho] at h
      cases q with
      | dead => exact h
      | cells cs => exact e.symm.trans h
      | tail n sz => exact h
      | map es => exact e.symm.trans h
      | iter m => exact e.symm.trans h
      | mark k => exact e.symm.trans h
  · subst hl
    refine .inr ?_
    have e : (E.withφ H.length x).φ H.length = some x := withφ_self _ _ _
    unfold owns at h
    rw [List.getElem?_append_right (Nat.le_refl _), Nat.sub_self, List.getElem?_cons_zero] at h
    cases o with
    | dead => exact h.elim
    | cells cs => exact (Option.some.inj (e.symm.trans h)).symm
    | tail n sz => obtain ⟨c, hc⟩ := h; exact absurd ((g.fresh (Nat.le_refl _)).2 n) (by intro e'; have hc' : E.G H.length n = some (b, c) := hc; rw [e'] at hc'; cases hc')
    | map es => exact (Option.some.inj (e.symm.trans h)).symm
    | iter m => exact (Option.some.inj (e.symm.trans h)).symm
    | mark k => exact (Option.some.inj (e.symm.trans h)).symm
  · unfold owns at h
    rw [List.getElem?_eq_none (by simp; omega)] at h
    exact h.elim

theorem new_ext (n0 : Nat) (W : Nat → Prop) (hn : n0 ≤ H.length) (g : Good E H w0 w) (o : Obj) (ob : AObj) : Ext n0 W E H w (E.withφ H.length w.heap.size) (H ++ [ob]) (w.alloc o) :=
  ⟨Env.withφ_le (g.fresh (Nat.le_refl _)).1, by rw [alloc_size]; omega, by simp, fun hl _ => List.getElem?_append_left (by omega), fun _ _ ho => Below.heap_alloc w o _ (g.ownlt ho), fun {l} hl => withφ_ne E (by omega),
   fun {b} hb h => ⟨Below.heap_alloc w o _ hb, fun l ho => (owns_new g ho).elim (h l) (fun e => by omega), fun _ => rfl⟩⟩

def Env.withS (E : Env) (b : Nat) (f : Nat → Option Value) : Env := { E with S := fun x o => if x = b then (E.S b o).or (f o) else E.S x o }

theorem withS_le (E : Env) (b : Nat) (f : Nat → Option Value) : E.le (E.withS b f) :=
  ⟨fun h => h, fun {x o u} h => by
    by_cases hx : x = b
    · subst hx; simp [Env.withS, h]
    · simpa [Env.withS, hx] using h, fun h => h⟩

/-- Cells of a block that no label owns are said to stay. -/
theorem Good.stay (g : Good E H w0 w) {b : Nat} {f : Nat → Option Value} (hfree : ∀ l, ¬ owns E H l b) (hf : ∀ o u, f o = some u → w.cell? ⟨b, o, none⟩ = some u) : Good (E.withS b f) H w0 w := by
  refine ⟨g.below, ?_, ?_, g.sep, g.fresh, g.φlt⟩
  · intro x o u h
    by_cases hx : x = b
    · subst hx
      simp only [Env.withS, if_true] at h
      cases hs : E.S x o with
      | none => rw [hs] at h; exact hf o u (by simpa using h)
      | some v => rw [hs] at h; simp at h; subst h; exact g.snap hs
    · simp only [Env.withS, hx, if_false] at h; exact g.snap h
  · intro l o h
    refine (g.obj h).step h (withS_le E b f) (fun _ h => h) (fun _ => rfl) (fun c o ho _ hn => ?_) (fun _ _ => rfl)
    have : c ≠ b := fun e => hfree l (e ▸ ho)
    simpa [Env.withS, this] using hn

/-- A new block all of whose cells stay. -/
theorem Good.row (g : Good E H w0 w) (arr : Array Value) (T : TypeId) : Good (E.withS w.heap.size (arr[·]?)) H w0 (w.alloc (.cells arr T)) :=
  (g.push _).stay (fun l ho => absurd (g.ownlt ho) (Nat.lt_irrefl _)) (fun o u h => by rw [cell_at (heap_alloc_new w _)]; exact h)

theorem row_ext (n0 : Nat) (W : Nat → Prop) (g : Good E H w0 w) (arr : Array Value) (T : TypeId) : Ext n0 W E H w (E.withS w.heap.size (arr[·]?)) H (w.alloc (.cells arr T)) :=
  ⟨withS_le E _ _, by rw [alloc_size]; omega, Nat.le_refl _, fun _ _ => rfl, fun _ _ ho => Below.heap_alloc w _ _ (g.ownlt ho), fun _ => rfl,
   fun {x} hx h => ⟨Below.heap_alloc w _ _ hx, h, fun o => (by have hx' : x ≠ w.heap.size := (by omega); simp [Env.withS, hx'])⟩⟩

theorem row_S (g : Good E H w0 w) (arr : Array Value) (o : Nat) : (E.withS w.heap.size (arr[·]?)).S w.heap.size o = arr[o]? := by
  simp [Env.withS, S_new_none g]

/-- A store. -/
theorem Good.set (g : Good E H w0 w) {l b j : Nat} {cs : List AV} {x y : AV} {v : Value} (hl : H[l]? = some (.cells cs)) (hb : E.φ l = some b) (hj : cs[j]? = some y) (hv : Rel E x v) :
    Good E (H.set l (.cells (cs.set j x))) w0 (w.setCell ⟨b, j, none⟩ v) ∧ w.cell? ⟨b, j, none⟩ ≠ none ∧ w.frozen? ⟨b, j, none⟩ = false := by
  have hown : owns E H l b := by unfold owns; rw [hl]; exact hb
  obtain ⟨h1, h2, arr, T, h3, h4⟩ := g.obj hl b hb
  have hlt : l < H.length := (List.getElem?_eq_some_iff.1 hl).1
  have owns_set : ∀ (cs' : List AV) (z c : Nat), owns E (H.set l (.cells cs')) z c ↔ owns E H z c := by
    intro cs' z c
    by_cases hz : l = z
    · subst hz
      unfold owns
      rw [List.getElem?_set_self hlt, hl]
    · unfold owns
      rw [List.getElem?_set_ne hz]
  obtain ⟨u, hu, _⟩ := h4 j y hj
  have hjlt : j < arr.size := (Array.getElem?_eq_some_iff.1 hu).1
  refine ⟨⟨g.below.setCell h1 v, ?_, ?_, ?_, ?_, ?_⟩, ?_, frozen_at h3⟩
  · intro c o t h
    have hne : c ≠ b := fun e => by subst e; rw [h2 o] at h; cases h
    rw [cell_same (Below.heap_setCell w ⟨b, j, none⟩ v c hne)]
    exact g.snap h
  · intro z o h
    by_cases hz : l = z
    · subst hz
      rw [List.getElem?_set_self hlt] at h
      simp only [Option.some.injEq] at h
      subst h
      intro c hc
      rw [hb] at hc
      simp only [Option.some.injEq] at hc
      subst hc
      refine ⟨h1, h2, arr.setIfInBounds j v, T, ?_, fun i t hi => ?_⟩
      · simp [World.setCell, Array.getElem?_modify, h3]
      · by_cases hij : j = i
        · subst hij
          rw [List.getElem?_set_self (List.getElem?_eq_some_iff.1 hj).1] at hi
          simp only [Option.some.injEq] at hi
          subst hi
          exact ⟨v, by simp [hjlt], hv⟩
        · rw [List.getElem?_set_ne hij] at hi
          obtain ⟨u, hu, hr⟩ := h4 i t hi
          exact ⟨u, by rw [Array.getElem?_setIfInBounds_ne hij]; exact hu, hr⟩
    · rw [List.getElem?_set_ne hz] at h
      refine (g.obj h).step h (.refl E) (fun _ h => h) (fun _ => rfl) (fun _ _ _ _ h => h) (fun c hc => ?_)
      refine Below.heap_setCell w ⟨b, j, none⟩ v c (fun e => hz ?_)
      simp only at e
      subst e
      exact g.sep hown hc
  · intro z z' c h h'
    exact g.sep ((owns_set _ _ _).1 h) ((owns_set _ _ _).1 h')
  · intro z hz; exact g.fresh (by simpa using hz)
  · intro z c h
    have := g.φlt h
    simpa [World.setCell] using this
  · rw [cell_at h3, hu]; simp

theorem set_ext {n0 : Nat} {W : Nat → Prop} (g : Good E H w0 w) {l b j : Nat} {cs cs' : List AV} {v : Value} (hW : l < n0 → W l) (hl : H[l]? = some (.cells cs)) (hb : E.φ l = some b) :
    Ext n0 W E H w E (H.set l (.cells cs')) (w.setCell ⟨b, j, none⟩ v) := by
  have hown : owns E H l b := by unfold owns; rw [hl]; exact hb
  refine ⟨.refl E, by simp [World.setCell], by simp, fun {z} hz hw => ?_, fun {z c} hz hw ho => ?_, fun _ => rfl, fun {c} hc h => ⟨Below.heap_setCell w ⟨b, j, none⟩ v c (fun e => by simp only at e; subst e; exact h _ hown), fun z ho => h z ?_, fun _ => rfl⟩⟩
  · have : l ≠ z := fun e => hw (e ▸ hW (e ▸ hz))
    exact List.getElem?_set_ne this
  · refine Below.heap_setCell w ⟨b, j, none⟩ v c (fun e => ?_)
    simp only at e
    subst e
    have := g.sep ho hown
    subst this
    exact hw (hW hz)
  · unfold owns at ho ⊢
    by_cases hz : l = z
    · subst hz
      rw [List.getElem?_set_self (List.getElem?_eq_some_iff.1 hl).1] at ho
      rw [hl]; exact ho
    · rwa [List.getElem?_set_ne hz] at ho
end
end Go.Proofs.YtiipaliigpkfhaaGreat.Ab

/- Part 4: calls. -/
set_option linter.unusedVariables false
namespace Go.Proofs.YtiipaliigpkfhaaGreat.Ab
open Go Go.RowKit

inductive AEnd where
  | ret (x : AV)
  | pan (x : AV)

inductive RelE (E : Env) : AEnd → Ending → Prop where
  | ret (x : AV) (v : Value) (h : Rel E x v) : RelE E (.ret x) (.returned v)
  | pan (x : AV) (v : Value) (h : Rel E x v) : RelE E (.pan x) (.panicked [{ v, recovered := false }])

/-- A call: what it ends with, the heap behind it, the labels of before that it may have written. -/
def CallsA (P : Program) (f : FuncId) (args : List AV) (out : AEnd) (H H' : AHeap) (W : Nat → Prop) : Prop :=
  ∀ (E : Env) (w0 w : World) (vs : Array Value), Good E H w0 w → RelL E args vs →
    Calls P f vs w fun e w' => ∃ E', RelE E' out e ∧ Ext H.length W E H w E' H' w' ∧ Good E' H' w0 w'

/-! ### Entering -/
/-- What is read as the results. -/
def resA (rs : List ResultVar) (T : List AV) : Option (List AV) :=
  match rs with
  | [] => some []
  | .tmp t :: r => (resA r T).map (T.getD t .any :: ·)
  | _ => none

def resultA (fn : Func) (T : List AV) : Option AV :=
  match resA fn.results.toList T with
  | some [x] => some x
  | some xs => some (.tup xs)
  | none => none

theorem resA_run {E : Env} {T : List AV} {tmps : Array Value} (ht : RelT E T tmps) (P : Program) (w : World) {g : ResultVar → Sem Value} (hg : ∀ t, g (.tmp t) = pure (tmps.getD t undef)) : ∀ {rs : List ResultVar} {xs : List AV}, resA rs T = some xs →
    ∃ vs : List Value, (rs.mapM g).run P w = .ok vs w ∧ vs.length = xs.length ∧ ∀ (i : Nat) (x : AV), xs[i]? = some x → Rel E x (vs.getD i undef)
  | [], xs, h => by
    simp only [resA, Option.some.injEq] at h
    subst h
    exact ⟨[], rfl, rfl, fun i x hx => by simp at hx⟩
  | .cell a t :: r, xs, h => by simp [resA] at h
  | .tmp t :: r, xs, h => by
    simp only [resA, Option.map_eq_some_iff] at h
    obtain ⟨ys, hy, rfl⟩ := h
    obtain ⟨vs, hv, hl, hr⟩ := resA_run ht P w hg hy
    refine ⟨tmps.getD t undef :: vs, ?_, by simp [hl], fun i x hx => ?_⟩
    · rw [List.mapM_cons, hg]
      simp only [pure_bind]
      rw [Sem.run_bind, hv]
      rfl
    · cases i with
      | zero =>
        simp at hx
        subst hx
        rw [List.getD_cons_zero]
        cases hT : T[t]? with
        | none => exact .any _
        | some y => exact ht.2 t y hT
      | succ i => simpa using hr i x (by simpa using hx)

theorem resultA_run {E : Env} {T : List AV} {tmps : Array Value} (ht : RelT E T tmps) {fn : Func} {x : AV} (h : resultA fn T = some x) (P : Program) (w : World) :
    ∃ v, (results fn tmps).run P w = .ok v w ∧ Rel E x v := by
  unfold resultA at h
  cases hr : resA fn.results.toList T with
  | none => rw [hr] at h; cases h
  | some xs =>
    rw [hr] at h
    unfold results
    rw [Sem.run_bind, Array.mapM_eq_mapM_toList, Sem.run_map]
    suffices aux : ∀ (g : ResultVar → Sem Value), (∀ t, g (.tmp t) = pure (tmps.getD t undef)) →
        ∃ v, ((Sem.run P (List.mapM g fn.results.toList) w).andThen fun a w' => Result.ok a.toArray w').andThen (fun a w' => Sem.run P (pure (if h : a.size = 1 then a[0] else Value.tuple a)) w') = Result.ok v w ∧ Rel E x v from
      aux _ (fun _ => rfl)
    intro g hg
    obtain ⟨vs, hv, hl, hrel⟩ := resA_run ht P w hg hr
    rw [hv]
    match xs, hl, h with
    | [y], hl, h =>
      match vs, hl with
      | [v], _ =>
        simp only [Option.some.injEq] at h
        subst h
        exact ⟨v, rfl, by simpa using hrel 0 y rfl⟩
    | [], hl, h =>
      match vs, hl with
      | [], _ =>
        simp only [Option.some.injEq] at h
        subst h
        exact ⟨_, rfl, .tup _ _ rfl (fun j x hj => by simp at hj)⟩
    | y :: z :: r, hl, h =>
      match vs, hl with
      | a :: b :: s, hl =>
        simp only [Option.some.injEq] at h
        subst h
        refine ⟨.tuple (a :: b :: s).toArray, by simp [Sem.run, Result.andThen], .tup _ _ (by simpa using hl) (fun j x hj => by simpa using hrel j x hj)⟩

def bodyQ (fn : Func) (out : AEnd) (H' : AHeap) : AExit → List AV → AHeap → Prop
  | .normal, T, H => H = H' ∧ ∃ x, resultA fn T = some x ∧ out = .ret x
  | .ret, T, H => H = H' ∧ ∃ x, resultA fn T = some x ∧ out = .ret x
  | .panic x, _, H => H = H' ∧ out = .pan x
  | _, _, _ => False

theorem callsA_of_wp {P : Program} {f : FuncId} {fn : Func} {c : Code} {args : List AV} {out : AEnd} {H H' : AHeap} {W : Nat → Prop} (hf : P.funcs[f]? = some fn) (hb : fn.body = some c)
    (h : wpA P H.length W c (bodyQ fn out H') (args ++ List.replicate (fn.ntmps - args.length) .any) H) : CallsA P f args out H H' W := by
  intro E w0 w vs hg hr
  refine calls_of_wp hf hb ?_
  have ht : RelT E (args ++ List.replicate (fn.ntmps - args.length) .any) (vs ++ Array.replicate (fn.ntmps - vs.size) undef) := by
    refine ⟨by simp [hr.1], fun i x hx => ?_⟩
    by_cases hi : i < args.length
    · rw [List.getElem?_append_left hi] at hx
      have := hr.2 i x hx
      have hi' : i < vs.size := by rw [hr.1]; exact hi
      have e : (vs ++ Array.replicate (fn.ntmps - vs.size) undef).getD i undef = vs.getD i undef := by
        simp [Array.getD_eq_getD_getElem?, Array.getElem?_append, hi']
      rw [e]; exact this
    · rw [List.getElem?_append_right (by omega)] at hx
      have := List.mem_of_getElem? hx
      rw [List.mem_replicate] at this
      rw [this.2]
      exact .any _
  refine wp_mono (h E w0 w ⟨_, []⟩ [] (Nat.le_refl _) hg ht rfl) ?_
  rintro e a' w' ⟨E', x, T', H1, q, r, ex, g, t, d⟩
  cases r with
  | normal =>
    obtain ⟨rfl, y, hy, rfl⟩ := q
    obtain ⟨v, hv, hrel⟩ := resultA_run t hy P w'
    exact ⟨d, v, hv, E', .ret _ _ hrel, ex, g⟩
  | ret =>
    obtain ⟨rfl, y, hy, rfl⟩ := q
    obtain ⟨v, hv, hrel⟩ := resultA_run t hy P w'
    exact ⟨d, v, hv, E', .ret _ _ hrel, ex, g⟩
  | panic x v hv =>
    obtain ⟨rfl, rfl⟩ := q
    exact ⟨d, E', .pan _ _ hv, ex, g⟩
  | exit id => exact q.elim
  | goto l => exact q.elim

/-! ### Forgetting what a call has made -/
/-- Nothing of before has been written, and the answer bears no label: what was made is forgotten. -/
theorem forget_state {E E' : Env} {H H' : AHeap} {w0 w w' : World} {x : AV} {v : Value} (hg : Good E H w0 w) (ex : Ext H.length (fun _ => False) E H w E' H' w') (g : Good E' H' w0 w') (hv : Rel E' x v) (hl : LF x) :
    ∃ E2, Ext H.length (fun _ => False) E H w E2 H w' ∧ Good E2 H w0 w' ∧ Rel E2 x v := by
  have hle : E.le { E with S := E'.S } := ⟨fun h => h, fun h => ex.le.S h, fun h => h⟩
  refine ⟨{ E with S := E'.S }, ⟨hle, ex.size, Nat.le_refl _, fun _ _ => rfl, ex.keep, fun _ => rfl, fun hb h => ⟨(ex.stay hb h).1, h, (ex.stay hb h).2.2⟩⟩, ?_, hv.lf hl (fun h => h)⟩
  refine ⟨g.below, fun h => g.snap h, ?_, ?_, ?_, ?_⟩
  · intro l o ho
    have hlt : l < H.length := (List.getElem?_eq_some_iff.1 ho).1
    refine (hg.obj ho).step ho hle (fun _ h => h) (fun _ => rfl) (fun b c hb hc hn => ?_) (fun b hb => ex.keep hlt (fun h => h) hb)
    have ho' := (ex.same hlt (fun h => h)).trans ho
    have hx := g.obj ho'
    have hk := ex.keep hlt (fun h => h) hb
    unfold owns at hb
    rw [ho] at hb
    cases o with
    | dead => exact hb.elim
    | cells cs => exact (hx b (ex.le.φ hb)).2.1 c
    | map es =>
      cases hs : E'.S b c with
      | none => rfl
      | some u =>
        obtain ⟨_, ms, ck, h3, _⟩ := hx b (ex.le.φ hb)
        have := g.snap hs
        simp [World.cell?, h3] at this
    | iter m =>
      cases hs : E'.S b c with
      | none => rfl
      | some u =>
        obtain ⟨_, r, ck, _, h3⟩ := hx b (ex.le.φ hb)
        have := g.snap hs
        simp [World.cell?, h3] at this
    | mark k =>
      cases hs : E'.S b c with
      | none => rfl
      | some u =>
        obtain ⟨_, r, h3, h4⟩ := hx b (ex.le.φ hb)
        have := g.snap hs
        cases k with
        | defs => have h4 : r = .deferred (some []) := h4; subst h4; simp [World.cell?, h3] at this
        | loop => obtain ⟨q, rfl, _⟩ := h4; simp [World.cell?, h3] at this
    | tail n sz =>
      obtain ⟨k, hk'⟩ := hb
      obtain ⟨b', c', arr, T, h1, _, _, _, _, _, h7, _⟩ := hx
      rw [ex.le.G hk'] at h1
      simp only [Option.some.injEq, Prod.mk.injEq] at h1
      rw [h1.1]
      exact h7 c (hc n sz rfl)
  · exact hg.sep
  · exact hg.fresh
  · exact fun h => Nat.lt_of_lt_of_le (hg.φlt h) ex.size
end Go.Proofs.YtiipaliigpkfhaaGreat.Ab

/- Part 5: operations that write nothing. -/
set_option linter.unusedVariables false
set_option linter.unusedSimpArgs false
namespace Go.Proofs.YtiipaliigpkfhaaGreat.Ab
open Go Go.RowKit

section
variable {P : Program} {o : Oper} {T : List AV} {H : AHeap}

theorem opA_run {x : AV} {H' : AHeap} {Wr : List Nat}
    (h : ∀ (E : Env) (w0 w : World) (ρ : Operand → Value), Good E H w0 w → RelO E T o ρ → ∃ E' v w', (execOp ρ o).run P w = .ok (.value v) w' ∧ Ext H.length (· ∈ Wr) E H w E' H' w' ∧ Good E' H' w0 w' ∧ Rel E' x v) : OpA P o T H x H' Wr := by
  intro E w0 w ρ hg ht
  obtain ⟨E', v, w', hr, he, hg', hx⟩ := h E w0 w ρ hg ht
  unfold OpR
  rw [hr]
  exact ⟨E', he, hg', hx⟩

theorem opA_skip {H' : AHeap} {Wr : List Nat}
    (h : ∀ (E : Env) (w0 w : World) (ρ : Operand → Value), Good E H w0 w → RelO E T o ρ → ∃ E' w', (execOp ρ o).run P w = .ok .skip w' ∧ Ext H.length (· ∈ Wr) E H w E' H' w' ∧ Good E' H' w0 w') : OpA P o T H .any H' Wr := by
  intro E w0 w ρ hg ht
  obtain ⟨E', w', hr, he, hg'⟩ := h E w0 w ρ hg ht
  unfold OpR
  rw [hr]
  exact ⟨E', he, hg', .any _⟩

/-- The world stays as it is. -/
def OpS (P : Program) (o : Oper) (T : List AV) (H : AHeap) (x : AV) : Prop :=
  ∀ (E : Env) (w0 w : World) (ρ : Operand → Value), Good E H w0 w → RelO E T o ρ → ∃ v, (execOp ρ o).run P w = .ok (.value v) w ∧ Rel E x v

theorem OpS.a {x : AV} (h : OpS P o T H x) : OpA P o T H x H [] :=
  opA_run fun E w0 w ρ hg ht => let ⟨v, hr, hx⟩ := h E w0 w ρ hg ht; ⟨E, v, w, hr, .refl _ _ _ _ _, hg, hx⟩

theorem opS_intro {x : AV} (h : ∀ (E : Env) (w0 w : World) (ρ : Operand → Value), Good E H w0 w → RelO E T o ρ → ∃ v, (execOp ρ o).run P w = .ok (.value v) w ∧ Rel E x v) : OpS P o T H x := h

theorem opS_move {x : Operand} (ho : o.op = .move x ∨ o.op = .assign x) : OpS P o T H (opdA T x) :=
  opS_intro fun E w0 w ρ hg ht => ⟨ρ x, by rcases ho with ho | ho <;> simp [execOp, ho, Sem.run], ht x (by rcases ho with ho | ho <;> simp [ho, Op.operands])⟩

theorem opS_pick {c x y : Operand} {b : Bool} (ho : o.op = .pick c x y) (hc : opdA T c = .sc (.bool b)) : OpS P o T H (if b then opdA T x else opdA T y) := by
  refine opS_intro fun E w0 w ρ hg ht => ?_
  have hr := ht c (by simp [ho, Op.operands, Call.operands])
  rw [hc] at hr
  generalize hv : ρ c = v at hr
  cases hr with
  | sc v hp =>
    refine ⟨if b then ρ x else ρ y, by simp [execOp, ho, hv, asBool, Sem.run], ?_⟩
    cases b
    · exact ht y (by simp [ho, Op.operands, Call.operands])
    · exact ht x (by simp [ho, Op.operands, Call.operands])

/-- Is it a scalar, and which? -/
def scal : AV → Option Value
  | .sc v => some v
  | _ => none

theorem scal_eq {x : AV} {v : Value} (h : scal x = some v) : x = .sc v := by
  cases x <;> simp [scal] at h
  rw [h]

theorem eval_scal {E : Env} {ρ : Operand → Value} {x : Operand} (hr : Rel E (opdA T x) (ρ x)) {v : Value} (h : scal (opdA T x) = some v) : ρ x = v := by
  rw [scal_eq h] at hr
  cases hr
  rfl

/-- An operation whose operands are all scalars, and which asks nothing of memory: the model's own answer. -/
theorem opS_scalar {v : Value} (hall : ∀ x ∈ o.op.operands, (scal (opdA T x)).isSome = true) (hsel : ∀ cs b, o.op ≠ .select cs b)
    (h : pureEval P (execOp (fun x => (scal (opdA T x)).getD undef) o) = some (.value v)) (hp : plain v = true) : OpS P o T H (.sc v) := by
  refine opS_intro fun E w0 w ρ hg ht => ⟨v, ?_, .sc v hp⟩
  have e : execOp ρ o = execOp (fun x => (scal (opdA T x)).getD undef) o := by
    refine execOp_congr o hsel (fun x hx => ?_)
    have := hall x hx
    cases hs : scal (opdA T x) with
    | none => rw [hs] at this; cases this
    | some u => simp [eval_scal (ht x hx) hs]
  rw [e]
  exact pureEval_run h w

/-! ### Loads -/
theorem loadCellsFrom_run {w : World} {b off : Nat} : ∀ (n i : Nat) (acc : Array Value) (us : List Value), us.length = n → (∀ j u, us[j]? = some u → w.cell? ⟨b, off + (i + j), none⟩ = some u) →
    (loadCellsFrom ⟨b, off, none⟩ i n acc).run P w = .ok (acc ++ us.toArray) w
  | 0, i, acc, us, hl, h => by
    have : us = [] := List.length_eq_zero_iff.1 hl
    subst this
    simp [loadCellsFrom, Sem.run]
  | n + 1, i, acc, us, hl, h => by
    match us, hl with
    | u :: r, hl =>
      have h0 := h 0 u rfl
      have hadd : (⟨b, off, none⟩ : Addr).add i = ⟨b, off + i, none⟩ := by
        unfold Addr.add; split <;> simp_all
      unfold loadCellsFrom
      have hl0 : (load ((⟨b, off, none⟩ : Addr).add i)).run P w = .ok u w := by
        simp only [load, Sem.run, hadd]
        rw [show off + i = off + (i + 0) from rfl, h0]
      rw [Sem.run_bind, hl0]
      simp only [Result.andThen]
      rw [loadCellsFrom_run n (i + 1) (acc.push u) r (by simpa using hl) (fun j x hj => by
        have := h (j + 1) x (by simpa using hj)
        rw [show off + (i + 1 + j) = off + (i + (j + 1)) by omega]
        exact this)]
      simp

def loadA (P : Program) (t : TypeId) (cs : List AV) : Option AV :=
  match pureEval P (isAgg t), pureEval P (Go.sizeOf t) with
  | some true, some n => if n ≤ cs.length then some (.agg (cs.take n)) else none
  | some false, some _ => cs.head?
  | _, _ => none

/-- The cells at an address stand for a list. -/
def CellsAt (E : Env) (cs : List AV) (w : World) (b off : Nat) : Prop := ∀ (j : Nat) (x : AV), cs[j]? = some x → ∃ u : Value, w.cell? ⟨b, off + j, none⟩ = some u ∧ Rel E x u

theorem loadA_run {E : Env} {w : World} {b off : Nat} {t : TypeId} {cs : List AV} {x : AV} (hc : CellsAt E cs w b off) (h : loadA P t cs = some x) :
    ∃ v, (loadVar t ⟨b, off, none⟩).run P w = .ok v w ∧ Rel E x v := by
  unfold loadA at h
  unfold loadVar
  split at h
  · rename_i n ha hs
    split at h
    · rename_i hn
      simp only [Option.some.injEq] at h
      subst h
      have hex : ∀ (m : Nat) (ds : List AV), m ≤ ds.length → (∀ (j : Nat) (x : AV), j < m → ds[j]? = some x → ∃ u : Value, w.cell? ⟨b, off + j, none⟩ = some u ∧ Rel E x u) → ∃ us : List Value, us.length = m ∧ (∀ j u, us[j]? = some u → w.cell? ⟨b, off + j, none⟩ = some u) ∧ ∀ (j : Nat) (x : AV), j < m → ds[j]? = some x → Rel E x (us.getD j undef) := by
        intro m
        induction m with
        | zero => exact fun ds _ _ => ⟨[], rfl, fun j u hj => by simp at hj, fun j x hj => by omega⟩
        | succ m ih =>
          intro ds hm hd
          obtain ⟨us, h1, h2, h3⟩ := ih ds (by omega) (fun j x hj => hd j x (by omega))
          obtain ⟨u, hu, hr⟩ := hd m ds[m] (by omega) (List.getElem?_eq_getElem (by omega))
          refine ⟨us ++ [u], by simp [h1], fun j v hj => ?_, fun j x hj hx => ?_⟩
          · by_cases hjm : j < m
            · rw [List.getElem?_append_left (by omega)] at hj; exact h2 j v hj
            · have : j = m := by
                have := (List.getElem?_eq_some_iff.1 hj).1
                simp at this; omega
              subst this
              rw [List.getElem?_append_right (by omega)] at hj
              simp [h1] at hj
              subst hj
              exact hu
          · by_cases hjm : j < m
            · have := h3 j x hjm hx
              rw [List.getD_eq_getElem?_getD, List.getElem?_append_left (by omega), ← List.getD_eq_getElem?_getD]
              exact this
            · have : j = m := by omega
              subst this
              rw [List.getD_eq_getElem?_getD, List.getElem?_append_right (by omega)]
              rw [List.getElem?_eq_getElem (by omega)] at hx
              simp only [Option.some.injEq] at hx
              subst hx
              simpa [h1] using hr
      obtain ⟨us, h1, h2, h3⟩ := hex n cs hn (fun j x _ hx => hc j x hx)
      refine ⟨.agg us.toArray, ?_, .agg _ _ (by simp [h1, hn]) (fun j x hj => ?_)⟩
      · rw [Sem.run_bind, pureEval_run ha]
        simp only [Result.andThen, if_true]
        rw [Sem.run_bind, pureEval_run hs]
        simp only [Result.andThen]
        rw [Sem.run_bind]
        unfold loadCells
        rw [loadCellsFrom_run n 0 #[] us h1 (fun j u hj => by rw [Nat.zero_add]; exact h2 j u hj)]
        simp [Result.andThen, Sem.run]
      · rw [List.getElem?_take] at hj
        split at hj
        · rename_i hjn
          simpa using h3 j x hjn hj
        · cases hj
    · cases h
  · rename_i n ha hs
    cases cs with
    | nil => simp at h
    | cons y r =>
      simp only [List.head?_cons, Option.some.injEq] at h
      subst h
      obtain ⟨u, hu, hr⟩ := hc 0 y rfl
      refine ⟨u, ?_, hr⟩
      rw [Sem.run_bind, pureEval_run ha]
      simp only [Result.andThen, Bool.false_eq_true, if_false]
      simp only [load, Sem.run]
      rw [Nat.add_zero] at hu
      rw [hu]
  · cases h

/-- The cells that a pointer points to. -/
def cellsOfA (H : AHeap) : AV → Option (List AV)
  | .ptr l o => match H[l]? with
    | some (.cells cs) => some (cs.drop o)
    | _ => none
  | .rptr cs => some cs
  | _ => none

theorem cellsOfA_at {E : Env} {w0 w : World} (hg : Good E H w0 w) {x : AV} {v : Value} {cs : List AV} (hr : Rel E x v) (h : cellsOfA H x = some cs) :
    ∃ b off, v = .pointer (some ⟨b, off, none⟩) ∧ CellsAt E cs w b off := by
  cases hr with
  | ptr l o b hb =>
    simp only [cellsOfA] at h
    split at h
    · rename_i ds hl
      simp only [Option.some.injEq] at h
      subst h
      obtain ⟨_, _, arr, T, h3, h4⟩ := hg.obj hl b hb
      refine ⟨b, o, rfl, fun j x hj => ?_⟩
      rw [List.getElem?_drop] at hj
      obtain ⟨u, hu, hr⟩ := h4 _ x hj
      exact ⟨u, by rw [cell_at h3]; exact hu, hr⟩
    · cases h
  | rptr ds b off u hs hk =>
    simp only [cellsOfA, Option.some.injEq] at h
    subst h
    exact ⟨b, off, rfl, fun j x hj => ⟨u j, hg.snap (hs j x hj), (hk j x hj).mono E.data_le⟩⟩
  | _ => simp [cellsOfA] at h

theorem opS_load {t : TypeId} {p : Operand} {x : AV} {cs : List AV} (ho : o.op = .load t p) (hp : cellsOfA H (opdA T p) = some cs) (hx : loadA P t cs = some x) : OpS P o T H x := by
  refine opS_intro fun E w0 w ρ hg ht => ?_
  obtain ⟨b, off, hv, hc⟩ := cellsOfA_at hg (ht p (by simp [ho, Op.operands, Call.operands])) hp
  obtain ⟨v, hr, hrel⟩ := loadA_run hc hx
  refine ⟨v, ?_, hrel⟩
  simp only [execOp, ho, Instr.loadAt, hv]
  simp only [Sem.run_bind, Instr.sureAddr, Sem.run_pure, Result.andThen_ok, hr]

/-! ### Addresses -/
theorem add_plain' (b off n : Nat) : (⟨b, off, none⟩ : Addr).add n = ⟨b, off + n, none⟩ := by
  unfold Addr.add; split <;> simp_all

def fieldOff (P : Program) (s : TypeId) (f : Nat) : Option Nat :=
  match pureEval P (underlying s) with
  | some (.struct fields) => match fields[f]? with
    | some fd => match pureEval P (Go.sizeOf fd.type) with
      | some (n + 1) => some fd.offset
      | _ => none
    | none => none
  | _ => none

/-- A pointer moved on by some cells. -/
def moveA (n : Nat) : AV → Option AV
  | .ptr l o => some (.ptr l (o + n))
  | .rptr cs => some (.rptr (cs.drop n))
  | _ => none

theorem moveA_rel {E : Env} {x y : AV} {v : Value} {n : Nat} (hr : Rel E x v) (h : moveA n x = some y) : ∃ b off, v = .pointer (some ⟨b, off, none⟩) ∧ Rel E y (.pointer (some ⟨b, off + n, none⟩)) := by
  cases hr with
  | ptr l o b hb =>
    simp only [moveA, Option.some.injEq] at h
    subst h
    exact ⟨b, o, rfl, .ptr l _ b hb⟩
  | rptr cs b off u hs hk =>
    simp only [moveA, Option.some.injEq] at h
    subst h
    refine ⟨b, off, rfl, .rptr _ b (off + n) (fun j => u (n + j)) (fun j x hj => ?_) (fun j x hj => ?_)⟩
    · rw [List.getElem?_drop] at hj
      rw [Nat.add_assoc]; exact hs _ x hj
    · rw [List.getElem?_drop] at hj
      exact hk _ x hj
  | _ => simp [moveA] at h

theorem opS_fieldAddr {s : TypeId} {p : Operand} {f n : Nat} {x : AV} (ho : o.op = .fieldAddr s p f) (hn : fieldOff P s f = some n) (hx : moveA n (opdA T p) = some x) : OpS P o T H x := by
  refine opS_intro fun E w0 w ρ hg ht => ?_
  obtain ⟨b, off, hv, hr⟩ := moveA_rel (ht p (by simp [ho, Op.operands, Call.operands])) hx
  refine ⟨_, ?_, hr⟩
  unfold fieldOff at hn
  split at hn
  · rename_i fields hf
    split at hn
    · rename_i fd hfd
      split at hn
      · rename_i m hm
        simp only [Option.some.injEq] at hn
        subst hn
        simp only [execOp, ho, Instr.fieldAt, hv, Sem.run_bind, pureEval_run hf, Result.andThen_ok, hfd, Instr.sureAddr, Sem.run_pure, fieldPlace, pureEval_run hm, Nat.add_eq_zero_iff, Nat.succ_ne_self, if_false, add_plain']
        simp [add_plain']
      · cases hn
    · cases hn
  · cases hn

theorem opS_nilCheck {p : Operand} {x : AV} (ho : o.op = .nilCheck p) (hx : opdA T p = x) (hp : (∃ l o, x = .ptr l o) ∨ (∃ cs, x = .rptr cs) ∨ ∃ f a b, x = .fn (.func f) a b) : OpS P o T H x := by
  refine opS_intro fun E w0 w ρ hg ht => ?_
  have hr := ht p (by simp [ho, Op.operands, Call.operands])
  rw [hx] at hr
  generalize hv : ρ p = v at hr
  refine ⟨v, ?_, hr⟩
  rcases hp with ⟨l, o', rfl⟩ | ⟨cs, rfl⟩ | ⟨f, as, bs, rfl⟩ <;> cases hr <;> simp [execOp, ho, hv]

theorem opS_extract {t : Operand} {i : Nat} {xs : List AV} {x : AV} (ho : o.op = .extract t i) (ht' : opdA T t = .tup xs) (hx : xs[i]? = some x) : OpS P o T H x := by
  refine opS_intro fun E w0 w ρ hg ht => ?_
  have hr := ht t (by simp [ho, Op.operands, Call.operands])
  rw [ht'] at hr
  generalize hv : ρ t = v at hr
  cases hr with
  | tup _ us hl k =>
    have hlt : i < us.size := by rw [hl]; exact (List.getElem?_eq_some_iff.1 hx).1
    have hget : us[i]? = some (us.getD i undef) := by simp [Array.getD_eq_getD_getElem?, hlt]
    refine ⟨us.getD i undef, ?_, k i x hx⟩
    simp only [execOp, ho, Instr.extract, hv, Sem.run_bind, hget, Sem.run_pure, Result.andThen_ok]

theorem rel_list {E : Env} {ρ : Operand → Value} (xs : Array Operand) (ht : ∀ y ∈ xs, Rel E (opdA T y) (ρ y)) : (xs.map ρ).size = (xs.toList.map (opdA T)).length ∧ ∀ (j : Nat) (x : AV), (xs.toList.map (opdA T))[j]? = some x → Rel E x ((xs.map ρ).getD j undef) := by
  refine ⟨by simp, fun j x hj => ?_⟩
  rw [List.getElem?_map] at hj
  cases hx : xs.toList[j]? with
  | none => rw [hx] at hj; cases hj
  | some y =>
    rw [hx] at hj
    simp only [Option.map_some, Option.some.injEq] at hj
    subst hj
    have hy : xs[j]? = some y := by simpa using hx
    have e : (xs.map ρ).getD j undef = ρ y := by simp [Array.getD_eq_getD_getElem?, hy]
    rw [e]
    exact ht y (Array.mem_of_getElem? hy)

theorem opS_makeFunc {fn : Fn} {first caps : Array Operand} (ho : o.op = .makeFunc fn first caps) : OpS P o T H (.fn fn (first.toList.map (opdA T)) (caps.toList.map (opdA T))) := by
  refine opS_intro fun E w0 w ρ hg ht => ⟨.func fn (first.map ρ) (caps.map ρ), by simp [execOp, ho, Instr.makeFunc], ?_⟩
  have h1 := rel_list first (fun y hy => ht y (by simp [ho, Op.operands, hy]))
  have h2 := rel_list caps (fun y hy => ht y (by simp [ho, Op.operands, hy]))
  exact .fn fn _ _ _ _ h1.1 h2.1 h1.2 h2.2

theorem opS_makeInterface {t : TypeId} {p : Operand} (ho : o.op = .makeInterface t p) (hu : ∃ d, pureEval P (underlying t) = some d ∧ ∀ ms, d ≠ .interface ms) : OpS P o T H (.ifc t (opdA T p)) := by
  refine opS_intro fun E w0 w ρ hg ht => ⟨.iface t (ρ p), ?_, .ifc _ _ _ (ht p (by simp [ho, Op.operands, Call.operands]))⟩
  obtain ⟨d, hd, hne⟩ := hu
  simp only [execOp, ho, Instr.makeInterface, Sem.run_bind, pureEval_run hd, Result.andThen_ok]
  cases d <;> first | exact absurd rfl (hne _) | rfl

/-! ### Slices -/
theorem opS_indexAddr {t elem : TypeId} {p q : Operand} {nl : Bool} {sz n : Nat} {el : Nat → List AV} {own : Own} {k : IntKind} {i : Int} (ho : o.op = .indexAddr t p q)
    (hu : pureEval P (underlying t) = some (.slice elem)) (hs : pureEval P (Go.sizeOf elem) = some sz) (hp : opdA T p = .rsl nl sz n el own) (hq : opdA T q = .sc (.int k i)) (h0 : 0 ≤ i) (h1 : i < n) :
    OpS P o T H (.rptr (el i.toNat)) := by
  refine opS_intro fun E w0 w ρ hg ht => ?_
  have hr := ht p (by simp [ho, Op.operands, Call.operands])
  rw [hp] at hr
  have hrq := ht q (by simp [ho, Op.operands, Call.operands])
  rw [hq] at hrq
  generalize hv : ρ p = v at hr
  generalize hw : ρ q = u at hrq
  cases hrq
  cases hr with
  | rnil => simp at h1; omega
  | rodd => simp at h1; omega
  | rsl sz n el own b off c us hn ho' hc hl h1' h k' =>
    have hi : i.toNat < n := by omega
    refine ⟨.pointer (some ⟨b, off + i.toNat * sz, none⟩), ?_, .rptr _ b _ (us i.toNat) (fun j x hj => h _ hi j x hj) (fun j x hj => k' _ hi j x hj)⟩
    simp only [execOp, ho, Instr.indexAt, hv, hw, asIntOf, Sem.run_bind, Sem.run_pure, Result.andThen_ok, pureEval_run hu, pureEval_run hs, h0, h1, and_self, if_true, add_plain']

/-- A place in a row that may be written. -/
theorem opS_indexMsl {t elem : TypeId} {p q : Operand} {l sz n : Nat} {k : IntKind} {i : Int} (ho : o.op = .indexAddr t p q)
    (hu : pureEval P (underlying t) = some (.slice elem)) (hs : pureEval P (Go.sizeOf elem) = some sz) (hp : opdA T p = .msl l sz n) (hq : opdA T q = .sc (.int k i)) (h0 : 0 ≤ i) (h1 : i < n) :
    OpS P o T H (.ptr l (i.toNat * sz)) := by
  refine opS_intro fun E w0 w ρ hg ht => ?_
  have hr := ht p (by simp [ho, Op.operands, Call.operands])
  rw [hp] at hr
  have hrq := ht q (by simp [ho, Op.operands, Call.operands])
  rw [hq] at hrq
  generalize hv : ρ p = v at hr
  generalize hw : ρ q = u at hrq
  cases hrq
  cases hr with
  | msl l sz n b hb hn =>
    refine ⟨.pointer (some ⟨b, i.toNat * sz, none⟩), ?_, .ptr l _ b hb⟩
    simp only [execOp, ho, Instr.indexAt, hv, hw, asIntOf, Sem.run_bind, Sem.run_pure, Result.andThen_ok, pureEval_run hu, pureEval_run hs, h0, h1, and_self, if_true, add_plain', Nat.zero_add]

theorem opS_lenMsl {t : TypeId} {c : Call} {p : Operand} {l sz n : Nat} (ho : o.op = .call c) (hc : c.callee = .builtin .len) (ha : c.args = #[p]) (htt : c.argTypes[0]? = some t)
    (hu : ∃ e, pureEval P (underlying t) = some (.slice e)) (hp : opdA T p = .msl l sz n) : OpS P o T H (.sc (.int .i64 n)) := by
  refine opS_intro fun E w0 w ρ hg ht => ?_
  obtain ⟨e, hu⟩ := hu
  have hr := ht p (by simp [ho, Op.operands, Call.operands, ha])
  rw [hp] at hr
  generalize hv : ρ p = v at hr
  refine ⟨.int .i64 n, ?_, .sc _ rfl⟩
  have hvs : ∃ A k, v = .slice A n k := by cases hr; exact ⟨_, _, rfl⟩
  obtain ⟨A, k, rfl⟩ := hvs
  simp [execOp, ho, resolve, hc, invoke, builtin, Builtin.len_, htt, ha, hv, pureEval_run hu, goInt]

/-- A place in a row that may be written. -/
theorem opS_indexAsl {t elem : TypeId} {p q : Operand} {l sz n : Nat} {k : IntKind} {i : Int} (ho : o.op = .indexAddr t p q)
    (hu : pureEval P (underlying t) = some (.slice elem)) (hs : pureEval P (Go.sizeOf elem) = some sz) (hp : opdA T p = .asl l sz n) (hq : opdA T q = .sc (.int k i)) (h0 : 0 ≤ i) (h1 : i < n) :
    OpS P o T H (.ptr l (i.toNat * sz)) := by
  refine opS_intro fun E w0 w ρ hg ht => ?_
  have hr := ht p (by simp [ho, Op.operands, Call.operands])
  rw [hp] at hr
  have hrq := ht q (by simp [ho, Op.operands, Call.operands])
  rw [hq] at hrq
  generalize hv : ρ p = v at hr
  generalize hw : ρ q = u at hrq
  cases hrq
  cases hr with
  | asl l sz n b c hb hn =>
    refine ⟨.pointer (some ⟨b, i.toNat * sz, none⟩), ?_, .ptr l _ b hb⟩
    simp only [execOp, ho, Instr.indexAt, hv, hw, asIntOf, Sem.run_bind, Sem.run_pure, Result.andThen_ok, pureEval_run hu, pureEval_run hs, h0, h1, and_self, if_true, add_plain', Nat.zero_add]

theorem opS_lenAsl {t : TypeId} {c : Call} {p : Operand} {l sz n : Nat} (ho : o.op = .call c) (hc : c.callee = .builtin .len) (ha : c.args = #[p]) (htt : c.argTypes[0]? = some t)
    (hu : ∃ e, pureEval P (underlying t) = some (.slice e)) (hp : opdA T p = .asl l sz n) : OpS P o T H (.sc (.int .i64 n)) := by
  refine opS_intro fun E w0 w ρ hg ht => ?_
  obtain ⟨e, hu⟩ := hu
  have hr := ht p (by simp [ho, Op.operands, Call.operands, ha])
  rw [hp] at hr
  generalize hv : ρ p = v at hr
  refine ⟨.int .i64 n, ?_, .sc _ rfl⟩
  have hvs : ∃ A k, v = .slice A n k := by cases hr; exact ⟨_, _, rfl⟩
  obtain ⟨A, k, rfl⟩ := hvs
  simp [execOp, ho, resolve, hc, invoke, builtin, Builtin.len_, htt, ha, hv, pureEval_run hu, goInt]

theorem opS_len {t : TypeId} {c : Call} {p : Operand} {nl : Bool} {sz n : Nat} {el : Nat → List AV} {own : Own} (ho : o.op = .call c) (hc : c.callee = .builtin .len) (ha : c.args = #[p]) (htt : c.argTypes[0]? = some t)
    (hu : ∃ e, pureEval P (underlying t) = some (.slice e)) (hp : opdA T p = .rsl nl sz n el own) : OpS P o T H (.sc (.int .i64 n)) := by
  refine opS_intro fun E w0 w ρ hg ht => ?_
  obtain ⟨e, hu⟩ := hu
  have hr := ht p (by simp [ho, Op.operands, Call.operands, ha])
  rw [hp] at hr
  generalize hv : ρ p = v at hr
  refine ⟨.int .i64 n, ?_, .sc _ rfl⟩
  have hvs : ∃ A k, v = .slice A n k := by cases hr <;> exact ⟨_, _, rfl⟩
  obtain ⟨A, k, rfl⟩ := hvs
  simp [execOp, ho, resolve, hc, invoke, builtin, Builtin.len_, htt, ha, hv, pureEval_run hu, goInt]
end
end Go.Proofs.YtiipaliigpkfhaaGreat.Ab

/- Part 6: operations that make variables, store, build. -/
set_option linter.unusedVariables false
set_option linter.unusedSimpArgs false
namespace Go.Proofs.YtiipaliigpkfhaaGreat.Ab
open Go Go.RowKit

/-- Cells stand for a list, one by one. -/
def RA (E : Env) (cs : List AV) (arr : Array Value) : Prop := arr.size = cs.length ∧ ∀ (j : Nat) (x : AV), cs[j]? = some x → Rel E x (arr.getD j undef)

theorem RA.cells {E : Env} {cs : List AV} {arr : Array Value} (h : RA E cs arr) : RelCells E cs arr := fun j x hj => by
  have hlt : j < arr.size := by rw [h.1]; exact (List.getElem?_eq_some_iff.1 hj).1
  exact ⟨arr.getD j undef, by simp [Array.getD_eq_getD_getElem?, hlt], h.2 j x hj⟩

theorem RA.one {E : Env} {x : AV} {v : Value} (h : Rel E x v) : RA E [x] #[v] := ⟨rfl, fun j y hj => by
  cases j with
  | zero => simp at hj; subst hj; exact h
  | succ j => simp at hj⟩

def notAny : AV → Bool
  | .any => false
  | _ => true

theorem cells_rel {E : Env} {x : AV} {v : Value} (h : Rel E x v) (hx : notAny x = true) : RA E x.cells v.cells := by
  cases h with
  | any v => simp [notAny] at hx
  | agg cs us hl k => exact ⟨hl, k⟩
  | sc v hp =>
    cases v <;> first | exact RA.one (.sc _ hp) | simp [plain] at hp
  | ptr l o b h => exact RA.one (.ptr l o b h)
  | rptr cs b off u h k => exact RA.one (.rptr cs b off u h k)
  | rnil sz el own h => exact RA.one (.rnil sz el own h)
  | rodd sz el own a h => exact RA.one (.rodd sz el own a h)
  | rsl sz n el own b off c u hn ho hc hl h1 h k => exact RA.one (.rsl sz n el own b off c u hn ho hc hl h1 h k)
  | fn f a b us vs h1 h2 k1 k2 => exact RA.one (.fn f a b us vs h1 h2 k1 k2)
  | ifc t x v k => exact RA.one (.ifc t x v k)
  | tup cs us h k => exact RA.one (.tup cs us h k)
  | mapr l b h => exact RA.one (.mapr l b h)
  | stamp l i n h => exact RA.one (.stamp l i n h)
  | msl l sz n b h hn => exact RA.one (.msl l sz n b h hn)
  | asl l sz n b c h hn => exact RA.one (.asl l sz n b c h hn)
  | yfn l b h => exact RA.one (.yfn l b h)

theorem oneC_store {E : Env} {x : AV} {v : Value} (h : Rel E x v) (hx : oneC x = true) {α : Type} (P : Program) (m : Mode) (a : Addr) (k : Sem α) (w : World) :
    (Sem.store m a v k).run P w = match w.cell? a with
      | some _ => if w.frozen? a then .halt (.unsupported (.unsafePointer "a write to bytes that a string shares")) w else k.run P (w.setCell a v)
      | none => match w.farStore P a v (m == .atomic) with
        | .ok (w, _) => k.run P w
        | .error h => .halt h w := by
  cases h with
  | any v => simp [oneC] at hx
  | agg cs us hl k => simp [oneC] at hx
  | tup cs us hl k => simp [oneC] at hx
  | sc v hp => cases v <;> first | rfl | simp [plain] at hp
  | _ => rfl

def setMany : List AV → Nat → List AV → List AV
  | cs, _, [] => cs
  | cs, o, x :: r => setMany (cs.set o x) (o + 1) r

theorem setMany_length : ∀ (xs cs : List AV) (o : Nat), (setMany cs o xs).length = cs.length
  | [], _, _ => rfl
  | x :: r, cs, o => by rw [setMany, setMany_length r]; simp

section
variable {P : Program} {o : Oper} {T : List AV} {H : AHeap}

theorem storeCells_run {E : Env} {w0 : World} {l b off n0 : Nat} {W : Nat → Prop} (hb : E.φ l = some b) (hW : l < n0 → W l) : ∀ (xs : List AV) (vs : List Value) (i : Nat) (H : AHeap) (cs : List AV) (w : World),
    Good E H w0 w → H[l]? = some (.cells cs) → vs.length = xs.length → (∀ (j : Nat) (x : AV), xs[j]? = some x → Rel E x (vs.getD j undef) ∧ oneC x = true) → off + i + xs.length ≤ cs.length →
    ∃ w', (storeCells ⟨b, off, none⟩ vs i).run P w = .ok () w' ∧ Good E (H.set l (.cells (setMany cs (off + i) xs))) w0 w' ∧ Ext n0 W E H w E (H.set l (.cells (setMany cs (off + i) xs))) w'
  | [], vs, i, H, cs, w, hg, hl, hlen, hr, hle => by
    have : vs = [] := List.length_eq_zero_iff.1 hlen
    subst this
    have hs : H.set l (.cells cs) = H := by
      refine List.ext_getElem? fun k => ?_
      by_cases hk : l = k
      · subst hk; rw [List.getElem?_set_self (List.getElem?_eq_some_iff.1 hl).1, hl]
      · rw [List.getElem?_set_ne hk]
    refine ⟨w, rfl, ?_, ?_⟩ <;> rw [setMany, hs]
    · exact hg
    · exact .refl _ _ _ _ _
  | x :: r, vs, i, H, cs, w, hg, hl, hlen, hr, hle => by
    match vs, hlen with
    | v :: vs', hlen =>
      obtain ⟨h0, h1⟩ := hr 0 x rfl
      simp only [List.getD_cons_zero] at h0
      simp only [List.length_cons] at hle hlen
      have hj : cs[off + i]? = some cs[off + i] := List.getElem?_eq_getElem (by omega)
      obtain ⟨g1, hc, hf⟩ := hg.set hl hb hj h0
      have e1 := set_ext (cs' := cs.set (off + i) x) (v := v) (j := off + i) hg hW hl hb
      have hl1 : (H.set l (.cells (cs.set (off + i) x)))[l]? = some (.cells (cs.set (off + i) x)) := List.getElem?_set_self (List.getElem?_eq_some_iff.1 hl).1
      obtain ⟨w', hrun, g2, e2⟩ := storeCells_run (off := off) hb hW r vs' (i + 1) _ _ _ g1 hl1 (by omega) (fun j y hy => by
        have := hr (j + 1) y (by simpa using hy)
        simpa using this) (by simp; omega)
      rw [List.set_set] at g2 e2
      refine ⟨w', ?_, ?_, ?_⟩
      · unfold storeCells
        rw [Sem.run_bind]
        have hs : (store ((⟨b, off, none⟩ : Addr).add i) v).run P w = .ok () (w.setCell ⟨b, off + i, none⟩ v) := by
          rw [add_plain']
          unfold store
          rw [oneC_store h0 h1]
          cases hcell : w.cell? ⟨b, off + i, none⟩ with
          | none => exact absurd hcell hc
          | some u => simp [hf, Sem.run]
        rw [hs]
        exact hrun
      · rw [setMany]; exact g2
      · rw [setMany]; exact e1.trans e2

theorem opA_store {t : TypeId} {p q : Operand} {l off : Nat} {cs : List AV} {x : AV} (ho : o.op = .store t p q) (hp : opdA T p = .ptr l off) (hl : H[l]? = some (.cells cs)) (hq : opdA T q = x) (hx : notAny x = true)
    (hs : pureEval P (Go.sizeOf t) = some x.cells.length) (h1 : ∀ y ∈ x.cells, oneC y = true) (hle : off + x.cells.length ≤ cs.length) :
    OpA P o T H .any (H.set l (.cells (setMany cs off x.cells))) [l] := by
  refine opA_skip fun E w0 w ρ hg ht => ?_
  have hr := ht p (by simp [ho, Op.operands, Call.operands])
  rw [hp] at hr
  have hrq := ht q (by simp [ho, Op.operands, Call.operands])
  rw [hq] at hrq
  generalize hv : ρ p = v at hr
  generalize hw : ρ q = u at hrq
  cases hr with
  | ptr l off b hb =>
    have hc := cells_rel hrq hx
    obtain ⟨w', hrun, g', e'⟩ := storeCells_run (P := P) (off := off) hb (n0 := H.length) (W := (· ∈ [l])) (fun _ => by simp) x.cells u.cells.toList 0 H cs w hg hl (by simpa using hc.1) (fun j y hy => ⟨by simpa using hc.2 j y hy, h1 y (List.mem_of_getElem? hy)⟩) (by simpa using hle)
    refine ⟨E, w', ?_, by simpa using e', by simpa using g'⟩
    simp only [execOp, ho, Instr.storeAt, hv, hw, Sem.run_bind, Instr.sureAddr, Sem.run_pure, Result.andThen_ok]
    unfold storeVar
    rw [Sem.run_bind, pureEval_run hs]
    simp only [Result.andThen_ok, hc.1, ne_eq, not_true, if_false]
    simp only [hrun, Result.andThen_ok, pure_bind]

theorem opA_box {t : TypeId} {q : Operand} {x : AV} (ho : o.op = .box t q) (hq : opdA T q = x) (hx : notAny x = true) : OpA P o T H (.ptr H.length 0) (H ++ [.cells x.cells]) [] := by
  refine opA_run fun E w0 w ρ hg ht => ?_
  have hrq := ht q (by simp [ho, Op.operands, Call.operands])
  rw [hq] at hrq
  have hc := cells_rel hrq hx
  refine ⟨E.withφ H.length w.heap.size, .pointer (some ⟨w.heap.size, 0, none⟩), w.alloc (.cells (ρ q).cells t), ?_, new_ext _ _ (Nat.le_refl _) hg _ _, hg.new t hc.cells, .ptr _ _ _ (withφ_self _ _ _)⟩
  simp only [execOp, ho, Instr.box, newVar, newRow, newObj, Sem.run_bind, Sem.run, Sem.run_pure, Result.andThen_ok]
  rfl

theorem opA_alloc {t : TypeId} {z : Value} {x : AV} (ho : o.op = .alloc t) (hz : pureEval P (zeroValue t) = some z) (hq : constA z = x) (hx : notAny x = true) : OpA P o T H (.ptr H.length 0) (H ++ [.cells x.cells]) [] := by
  refine opA_run fun E w0 w ρ hg ht => ?_
  have hrq := constA_rel E _ z (Nat.lt_succ_self _)
  rw [hq] at hrq
  have hc := cells_rel hrq hx
  refine ⟨E.withφ H.length w.heap.size, .pointer (some ⟨w.heap.size, 0, none⟩), w.alloc (.cells z.cells t), ?_, new_ext _ _ (Nat.le_refl _) hg _ _, hg.new t hc.cells, .ptr _ _ _ (withφ_self _ _ _)⟩
  simp only [execOp, ho, Instr.alloc, Sem.run_bind, pureEval_run hz, Result.andThen_ok]
  simp only [newVar, newRow, newObj, Sem.run_bind, Sem.run, Sem.run_pure, Result.andThen_ok]
  rfl

/-! ### Literals -/
def fillA (place : Nat → Option (Nat × Nat)) : List AV → List (Nat × AV) → Option (List AV)
  | cs, [] => some cs
  | cs, (i, x) :: rest =>
    match place i with
    | none => none
    | some (off, size) =>
      if notAny x && x.cells.length == size && decide (off + x.cells.length ≤ cs.length) then fillA place (setMany cs off x.cells) rest else none

theorem setMany_RA {E : Env} : ∀ (xs : List AV) (vs : List Value) (k : Nat) (cs : List AV) (arr : Array Value) (off : Nat), RA E cs arr → vs.length = xs.length → (∀ (j : Nat) (x : AV), xs[j]? = some x → Rel E x (vs.getD j undef)) → off + k + xs.length ≤ cs.length →
    RA E (setMany cs (off + k) xs) ((vs.zipIdx k).foldl (fun cs (c, j) => cs.setIfInBounds (off + j) c) arr)
  | [], vs, k, cs, arr, off, h, hl, hr, hle => by
    have : vs = [] := List.length_eq_zero_iff.1 hl
    subst this
    exact h
  | x :: r, vs, k, cs, arr, off, h, hl, hr, hle => by
    match vs, hl with
    | v :: vs', hl =>
      simp only [List.length_cons] at hl hle
      rw [List.zipIdx_cons, List.foldl_cons, setMany]
      refine setMany_RA r vs' (k + 1) _ _ off ⟨by simp [h.1], fun j y hj => ?_⟩ (by omega) (fun j y hy => by simpa using hr (j + 1) y (by simpa using hy)) (by simp; omega)
      by_cases hjk : off + k = j
      · subst hjk
        rw [List.getElem?_set_self (by omega)] at hj
        simp only [Option.some.injEq] at hj
        subst hj
        have hlt : off + k < arr.size := by rw [h.1]; omega
        have e : (arr.setIfInBounds (off + k) v).getD (off + k) undef = v := by simp [Array.getD_eq_getD_getElem?, hlt]
        rw [e]
        simpa using hr 0 x rfl
      · rw [List.getElem?_set_ne hjk] at hj
        have e : (arr.setIfInBounds (off + k) v).getD j undef = arr.getD j undef := by simp [Array.getD_eq_getD_getElem?, Array.getElem?_setIfInBounds_ne hjk]
        rw [e]
        exact h.2 j y hj

theorem fill_RA {E : Env} {place : Nat → Option (Nat × Nat)} : ∀ (ps : List (Nat × AV)) (qs : List (Nat × Value)) (cs ds : List AV) (arr : Array Value), RA E cs arr → qs.length = ps.length →
    (∀ (j : Nat) (p : Nat × AV), ps[j]? = some p → ∃ q, qs[j]? = some q ∧ q.1 = p.1 ∧ Rel E p.2 q.2) → fillA place cs ps = some ds → ∃ out, Instr.fill place arr qs = some out ∧ RA E ds out
  | [], qs, cs, ds, arr, h, hl, hr, hf => by
    have : qs = [] := List.length_eq_zero_iff.1 hl
    subst this
    simp only [fillA, Option.some.injEq] at hf
    subst hf
    exact ⟨arr, rfl, h⟩
  | (i, x) :: rest, qs, cs, ds, arr, h, hl, hr, hf => by
    match qs, hl with
    | (i', v) :: qs', hl =>
      obtain ⟨q, hq, h1, h2⟩ := hr 0 (i, x) rfl
      simp only [List.getElem?_cons_zero, Option.some.injEq] at hq
      subst hq
      simp only at h1 h2
      subst h1
      unfold fillA at hf
      cases hp : place i' with
      | none => rw [hp] at hf; cases hf
      | some os =>
        obtain ⟨off, size⟩ := os
        rw [hp] at hf
        simp only at hf
        split at hf
        · rename_i hc
          simp only [Bool.and_eq_true, beq_iff_eq, decide_eq_true_eq] at hc
          obtain ⟨⟨hna, hsz⟩, hle⟩ := hc
          have hcr := cells_rel h2 hna
          have := setMany_RA x.cells v.cells.toList 0 cs arr off h (by simpa using hcr.1) (fun j y hy => by simpa using hcr.2 j y hy) (by simpa using hle)
          obtain ⟨out, ho, hra⟩ := fill_RA rest qs' _ ds _ this (by simpa using hl) (fun j p hj => by simpa using hr (j + 1) p (by simpa using hj)) (by simpa using hf)
          refine ⟨out, ?_, hra⟩
          unfold Instr.fill
          rw [hp]
          simp only
          rw [if_neg (by
            simp only [Bool.or_eq_true, decide_eq_true_eq, not_or]
            rw [hcr.1, h.1, hsz]
            refine ⟨by simp, ?_⟩
            rw [hsz] at hle
            simpa using hle)]
          rw [← ho]
          congr 1
          rw [← Array.foldl_toList, Array.toList_zipIdx]
        · cases hf
end
end Go.Proofs.YtiipaliigpkfhaaGreat.Ab

/- Part 7: literals, slices that are cut, slices that grow. -/
set_option linter.unusedVariables false
set_option linter.unusedSimpArgs false
namespace Go.Proofs.YtiipaliigpkfhaaGreat.Ab
open Go Go.RowKit

theorem Rel.data {E : Env} {x : AV} {v : Value} (h : Rel E x v) (hl : LF x) : Rel E.data x v := h.lf hl (fun h => h)

/-- Its operands, paired. -/
theorem parts_rel {E : Env} {T : List AV} {ρ : Operand → Value} (ps : Array (Nat × Operand)) (ht : ∀ y ∈ ps, Rel E (opdA T y.2) (ρ y.2)) :
    ((ps.map fun (i, x) => (i, ρ x)).toList).length = (ps.toList.map fun (i, x) => (i, opdA T x)).length ∧
    ∀ (j : Nat) (p : Nat × AV), (ps.toList.map fun (i, x) => (i, opdA T x))[j]? = some p → ∃ q, ((ps.map fun (i, x) => (i, ρ x)).toList)[j]? = some q ∧ q.1 = p.1 ∧ Rel E p.2 q.2 := by
  refine ⟨by simp, fun j p hj => ?_⟩
  rw [List.getElem?_map] at hj
  cases hx : ps.toList[j]? with
  | none => rw [hx] at hj; cases hj
  | some y =>
    rw [hx] at hj
    simp only [Option.map_some, Option.some.injEq] at hj
    subst hj
    refine ⟨(y.1, ρ y.2), ?_, rfl, ht y (by rw [← Array.mem_toList_iff]; exact List.mem_of_getElem? hx)⟩
    rw [Array.toList_map, List.getElem?_map, hx]
    rfl

/-- Where a struct's fields lie. -/
def placesOf (P : Program) (t : TypeId) : Option (Array (Nat × Nat)) :=
  match pureEval P (underlying t) with
  | some (.struct fields) => pureEval P (fields.mapM fun f => do pure (f.offset, ← Go.sizeOf f.type))
  | _ => none

section
variable {P : Program} {o : Oper} {T : List AV} {H : AHeap}

theorem opS_build {t : TypeId} {ps : Array (Nat × Operand)} {z : Value} {zs : List AV} {pl : Array (Nat × Nat)} {cs : List AV} (ho : o.op = .build t ps) (hz : pureEval P (zeroValue t) = some z) (hzc : constA z = .agg zs)
    (hpl : placesOf P t = some pl) (hf : fillA (fun i => pl[i]?) zs (ps.toList.map fun (i, x) => (i, opdA T x)) = some cs) : OpS P o T H (.agg cs) := by
  refine opS_intro fun E w0 w ρ hg ht => ?_
  have hzr := constA_rel E _ z (Nat.lt_succ_self _)
  rw [hzc] at hzr
  have hzra : RA E zs z.cells := cells_rel hzr rfl
  obtain ⟨hl, hr⟩ := parts_rel ps (fun y hy => ht y.2 (by simp only [ho, Op.operands]; simp only [List.mem_toArray, List.mem_map]; exact ⟨y, by simpa using hy, rfl⟩))
  obtain ⟨out, hout, hra⟩ := fill_RA _ _ _ _ _ hzra hl hr hf
  refine ⟨.agg out, ?_, .agg _ _ hra.1 hra.2⟩
  unfold placesOf at hpl
  split at hpl
  · rename_i fields hu
    simp only [execOp, ho, Instr.build, Sem.run_bind, pureEval_run hz, pureEval_run hu, Result.andThen_ok]
    have := pureEval_run hpl w
    rw [this]
    simp only [Result.andThen_ok]
    rw [hout]
    simp only [Sem.run_pure, Result.andThen_ok]
  · cases hpl

/-- The rows of a literal. -/
def rowOf (sz : Nat) (cs : List AV) : Nat → List AV := fun i => (cs.drop (i * sz)).take sz

theorem rowOf_length {sz n : Nat} {cs : List AV} (h : cs.length = n * sz) {i : Nat} (hi : i < n) : (rowOf sz cs i).length = sz := by
  have : (i + 1) * sz ≤ n * sz := Nat.mul_le_mul_right _ hi
  rw [Nat.add_mul] at this
  simp [rowOf]; omega

theorem rowOf_get {sz : Nat} {cs : List AV} {i j : Nat} {x : AV} (h : (rowOf sz cs i)[j]? = some x) : cs[i * sz + j]? = some x := by
  unfold rowOf at h
  rw [List.getElem?_take] at h
  split at h
  · rwa [List.getElem?_drop] at h
  · cases h

theorem zeros_RA {E : Env} {zs : List AV} {zv : Array Value} (h : RA E zs zv) (m : Nat) (hz : m = 0 ∨ 0 < zs.length) : RA E ((List.range m).map fun i => zs.getD (i % zs.length) .any) ((Array.range m).map (zv[· % zv.size]!)) := by
  refine ⟨by simp, fun j x hj => ?_⟩
  rw [List.getElem?_map] at hj
  cases hr : (List.range m)[j]? with
  | none => rw [hr] at hj; cases hj
  | some i =>
    rw [hr] at hj
    simp only [Option.map_some, Option.some.injEq] at hj
    have hjm : j < m := by simpa using (List.getElem?_eq_some_iff.1 hr).1
    have : i = j := by
      have := List.getElem?_range hjm
      rw [hr] at this
      simpa using this
    subst this
    subst hj
    have hpos : 0 < zs.length := by omega
    have hlt : i % zs.length < zs.length := Nat.mod_lt _ hpos
    have e : ((Array.range m).map (zv[· % zv.size]!)).getD i undef = zv.getD (i % zs.length) undef := by
      have h1 : (Array.range m)[i]? = some i := by simp [hjm]
      simp only [Array.getD_eq_getD_getElem?, Array.getElem?_map, h1, Option.map_some, Option.getD_some]
      rw [h.1]
      have hlt' : i % zs.length < zv.size := by rw [h.1]; exact hlt
      simp [hlt']
    rw [e]
    have hg : zs[i % zs.length]? = some (zs.getD (i % zs.length) .any) := by simp [List.getD_eq_getElem?_getD, hlt]
    exact h.2 _ _ hg

theorem opA_buildSlice {t elem : TypeId} {n sz : Nat} {ps : Array (Nat × Operand)} {z : Value} {zs cs : List AV} (ho : o.op = .buildSlice t n ps) (hu : pureEval P (underlying t) = some (.slice elem)) (hs : pureEval P (Go.sizeOf elem) = some sz)
    (hz : pureEval P (zeroValue elem) = some z) (hzc : (constA z).cells = zs) (hzn : notAny (constA z) = true) (hzl : 0 < zs.length) (hbig : n * sz ≤ 2 ^ 24)
    (hf : fillA (fun i => some (i * sz, sz)) ((List.range (n * sz)).map fun i => zs.getD (i % zs.length) .any) (ps.toList.map fun (i, x) => (i, opdA T x)) = some cs)
    (hcl : cs.length = n * sz) (hlf : ∀ x ∈ cs, LF x) (h1c : ∀ x ∈ cs, oneC x = true) (hn : n ≤ maxLen) : OpA P o T H (.rsl false sz n (rowOf sz cs) .tight) H [] := by
  refine opA_run fun E w0 w ρ hg ht => ?_
  have hzr := constA_rel E _ z (Nat.lt_succ_self _)
  have hzra : RA E zs z.cells := hzc ▸ cells_rel hzr hzn
  obtain ⟨hl, hr⟩ := parts_rel ps (fun y hy => ht y.2 (by simp only [ho, Op.operands]; simp only [List.mem_toArray, List.mem_map]; exact ⟨y, by simpa using hy, rfl⟩))
  obtain ⟨out, hout, hra⟩ := fill_RA _ _ _ _ _ (zeros_RA hzra (n * sz) (.inr hzl)) hl hr hf
  refine ⟨E.withS w.heap.size (out[·]?), .slice (some ⟨w.heap.size, 0, none⟩) n n, w.alloc (.cells out elem), ?_, row_ext _ _ hg out elem, hg.row out elem, ?_⟩
  · simp only [execOp, ho, Instr.buildSlice, Sem.run_bind, pureEval_run hu, pureEval_run hs, Result.andThen_ok]
    rw [if_neg (by omega)]
    by_cases h0 : n * sz = 0
    · simp only [h0, if_true, Sem.run_pure, Result.andThen_ok]
      have e : (Array.range 0).map ((#[] : Array Value)[· % (#[] : Array Value).size]!) = (Array.range (n * sz)).map (z.cells[· % z.cells.size]!) := by rw [h0]; simp
      simp only [Sem.run_bind, Sem.run_pure, Result.andThen_ok] at *
      rw [e, hout]
      simp only [newRow, newObj, Sem.run_bind, Sem.run, Sem.run_pure, Result.andThen_ok]
      rfl
    · simp only [h0, if_false, Sem.run_bind, pureEval_run hz, Sem.run_pure, Result.andThen_ok]
      rw [hout]
      simp only [newRow, newObj, Sem.run_bind, Sem.run, Sem.run_pure, Result.andThen_ok]
      rfl
  · have hos : out.size = n * sz := by rw [hra.1, hcl]
    have hle := withS_le E w.heap.size (out[·]?)
    refine .rsl sz n _ .tight w.heap.size 0 n (fun i j => out.getD (i * sz + j) undef) hn rfl (Nat.le_refl _) (fun i hi => rowOf_length hcl hi) (fun i hi x hx => h1c x (List.mem_of_mem_drop (List.mem_of_mem_take hx))) (fun i hi j x hj => ?_) (fun i hi j x hj => ?_)
    · have hj' := rowOf_get hj
      rw [row_S hg, Nat.zero_add]
      have hlt : i * sz + j < out.size := by rw [hra.1]; exact (List.getElem?_eq_some_iff.1 hj').1
      simp [Array.getD_eq_getD_getElem?, hlt]
    · have hj' := rowOf_get hj
      exact ((hra.2 _ x hj').data (hlf x (List.mem_of_getElem? hj'))).mono hle.data

/-- Cutting. -/
def optInt (T : List AV) : Option Operand → Option (Option Int)
  | none => some none
  | some q => match opdA T q with
    | .sc (.int _ i) => some (some i)
    | _ => none

theorem optInt_eval {E : Env} {ρ : Operand → Value} {q : Option Operand} (ht : ∀ x, q = some x → Rel E (opdA T x) (ρ x)) {r : Option Int} (h : optInt T q = some r) :
    (q = none ∧ r = none) ∨ ∃ x k i, q = some x ∧ r = some i ∧ ρ x = .int k i := by
  cases q with
  | none => simp [optInt] at h; exact .inl ⟨rfl, h.symm⟩
  | some x =>
    simp only [optInt] at h
    split at h
    · rename_i k i hx
      simp only [Option.some.injEq] at h
      have hr := ht x rfl
      rw [hx] at hr
      generalize hv : ρ x = v at hr
      cases hr
      exact .inr ⟨x, k, i, rfl, h.symm, hv⟩
    · cases h

theorem sliceBound_ok {w : World} {k : IntKind} {i : Int} {y : Nat} {code : BoundsCode} (h0 : 0 ≤ i) (h1 : i ≤ y) : (Instr.sliceBound (.int k i) y code).run P w = .ok i.toNat w := by
  simp only [Instr.sliceBound, asIntOf, Sem.run_bind, Sem.run_pure, Result.andThen_ok, h0, h1, and_self, if_true]

theorem sliceBounds_ok {E : Env} {ρ : Operand → Value} {w : World} {lo hi : Option Operand} (htl : ∀ x, lo = some x → Rel E (opdA T x) (ρ x)) (hth : ∀ x, hi = some x → Rel E (opdA T x) (ρ x)) {l h : Option Int} (hl : optInt T lo = some l) (hh : optInt T hi = some h) {n c : Nat} (hnc : n ≤ c)
    (h1 : 0 ≤ l.getD 0) (h2 : l.getD 0 ≤ h.getD n) (h3 : h.getD n ≤ n) : (Instr.sliceBounds true n c (lo.map ρ) (hi.map ρ) none).run P w = .ok ((l.getD 0).toNat, (h.getD n).toNat, c) w := by
  unfold Instr.sliceBounds
  rcases optInt_eval hth hh with ⟨rfl, rfl⟩ | ⟨x, k, i, rfl, rfl, hx⟩ <;> rcases optInt_eval htl hl with ⟨rfl, rfl⟩ | ⟨y, k', i', rfl, rfl, hy⟩
  · simp
  · simp only [Option.map_some, Option.map_none, hy, Option.getD_some, Option.getD_none] at *
    simp only [Sem.run_bind, Sem.run_pure, Result.andThen_ok, pure_bind]
    rw [sliceBound_ok (by omega) (by omega)]
    simp
  · simp only [Option.map_some, Option.map_none, hx, Option.getD_some, Option.getD_none] at *
    simp only [Sem.run_bind, Sem.run_pure, Result.andThen_ok, pure_bind]
    rw [sliceBound_ok (by omega) (by omega)]
    simp
  · simp only [Option.map_some, Option.map_none, hx, hy, Option.getD_some, Option.getD_none] at *
    simp only [Sem.run_bind, Sem.run_pure, Result.andThen_ok, pure_bind]
    rw [sliceBound_ok (by omega) (by omega)]
    simp only [Result.andThen_ok, Sem.run_bind]
    rw [sliceBound_ok (by omega) (by omega)]
    simp

theorem slice_rel {E : Env} {nl : Bool} {sz n : Nat} {el : Nat → List AV} {own : Own} {A : Option Addr} {c l h m : Nat} (hr : Rel E (.rsl nl sz n el own) (.slice A n c)) (h1 : l ≤ h) (h2 : h ≤ n) (h3 : h ≤ m) (h4 : m ≤ c) (own' : Own)
    (ho : own' = .non ∨ own' = .tight ∧ m = h) : Rel E (.rsl nl sz (h - l) (fun i => el (i + l)) own') (.slice (if m = l then A else A.map (·.add (l * sz))) (h - l) (m - l)) := by
  cases hr with
  | rnil sz el own hown =>
    have : h = 0 := by omega
    subst this
    have : l = 0 := by omega
    subst this
    have : m = 0 := by omega
    subst this
    simp only [if_true, Nat.sub_self]
    exact .rnil _ _ _ (by rcases ho with rfl | ⟨rfl, _⟩ <;> simp)
  | rodd sz el own a hown =>
    have : h = 0 := by omega
    subst this
    have : l = 0 := by omega
    subst this
    have : m = 0 := by omega
    subst this
    simp only [if_true, Nat.sub_self]
    exact .rodd _ _ _ a (by rcases ho with rfl | ⟨rfl, _⟩ <;> simp)
  | rsl sz n el own b off c u hn ho' hc hlen h1c hS hk =>
    have hown : own'.ok E (h - l) b (if m = l then off else off + l * sz) (m - l) := by
      rcases ho with rfl | ⟨rfl, rfl⟩
      · exact Nat.sub_le_sub_right h3 l
      · rfl
    have e : (if m = l then (some ⟨b, off, none⟩ : Option Addr) else (some (⟨b, off, none⟩ : Addr)).map (·.add (l * sz))) = some ⟨b, if m = l then off else off + l * sz, none⟩ := by
      split
      · rfl
      · simp [add_plain']
    rw [e]
    refine .rsl sz (h - l) _ own' b _ (m - l) (fun i j => u (i + l) j) (by omega) hown (by omega) (fun i hi => hlen _ (by omega)) (fun i hi => h1c _ (by omega)) (fun i hi j x hj => ?_) (fun i hi j x hj => hk _ (by omega) j x hj)
    rw [if_neg (by omega)]
    have := hS (i + l) (by omega) j x hj
    rw [Nat.add_mul] at this
    rw [show off + l * sz + i * sz + j = off + (i * sz + l * sz) + j by omega]
    exact this

theorem rel_slice_form {E : Env} {nl : Bool} {sz n : Nat} {el : Nat → List AV} {own : Own} {v : Value} (hr : Rel E (.rsl nl sz n el own) v) : ∃ A c, v = .slice A n c ∧ n ≤ c ∧ (own = .tight → c = n) := by
  cases hr with
  | rnil => exact ⟨_, _, rfl, Nat.le_refl _, fun _ => rfl⟩
  | rodd => exact ⟨_, _, rfl, Nat.le_refl _, fun _ => rfl⟩
  | rsl _ _ _ _ _ _ _ _ _ ho hc => exact ⟨_, _, rfl, hc, fun e => by subst e; exact ho⟩

theorem opS_slice {t elem : TypeId} {p : Operand} {lo hi : Option Operand} {nl : Bool} {sz n : Nat} {el : Nat → List AV} {own : Own} {l h : Option Int} (ho : o.op = .slice t p lo hi none)
    (hu : pureEval P (underlying t) = some (.slice elem)) (hs : pureEval P (Go.sizeOf elem) = some sz) (hp : opdA T p = .rsl nl sz n el own) (hl : optInt T lo = some l) (hh : optInt T hi = some h)
    (h1 : 0 ≤ l.getD 0) (h2 : l.getD 0 ≤ h.getD n) (h3 : h.getD n ≤ n) : OpS P o T H (.rsl nl sz ((h.getD n).toNat - (l.getD 0).toNat) (fun i => el (i + (l.getD 0).toNat)) .non) := by
  refine opS_intro fun E w0 w ρ hg ht => ?_
  have hr := ht p (by simp [ho, Op.operands, Call.operands])
  rw [hp] at hr
  generalize hv : ρ p = v at hr
  obtain ⟨A, c, rfl, hc, _⟩ := rel_slice_form hr
  refine ⟨_, ?_, slice_rel (l := (l.getD 0).toNat) (h := (h.getD n).toNat) (m := c) hr (by omega) (by omega) (by omega) (Nat.le_refl _) .non (.inl rfl)⟩
  simp only [execOp, ho, Instr.sliceAt, hv, Sem.run_bind, pureEval_run hu, Result.andThen_ok, Instr.slice, Option.map_none]
  rw [sliceBounds_ok (fun x e => ht x (by simp [ho, Op.operands, e])) (fun x e => ht x (by simp [ho, Op.operands, e])) hl hh hc h1 h2 h3]
  simp only [Result.andThen_ok, pureEval_run hs, Sem.run_pure, Sem.run_bind]

theorem opS_sliceNone {t elem : TypeId} {p : Operand} {lo hi : Option Operand} {nl : Bool} {sz sz0 : Nat} {el : Nat → List AV} {own : Own} {l h : Option Int} (ho : o.op = .slice t p lo hi none)
    (hu : pureEval P (underlying t) = some (.slice elem)) (hs : pureEval P (Go.sizeOf elem) = some sz0) (hp : opdA T p = .rsl nl sz 0 el own) (hl : optInt T lo = some l) (hh : optInt T hi = some h)
    (h1 : l.getD 0 = 0) (h2 : h.getD (0 : Nat) = 0) : OpS P o T H (.rsl nl sz 0 el .non) := by
  refine opS_intro fun E w0 w ρ hg ht => ?_
  have hr := ht p (by simp [ho, Op.operands, Call.operands])
  rw [hp] at hr
  generalize hv : ρ p = v at hr
  obtain ⟨A, c, rfl, hc, _⟩ := rel_slice_form hr
  have e0 : (0 : Nat) * sz0 = 0 * sz := by simp
  have h2' : (h.getD ((0 : Nat) : Int)) = 0 := h2
  refine ⟨_, ?_, slice_rel (l := 0) (h := 0) (m := c) hr (by omega) (by omega) (by omega) (Nat.le_refl _) .non (.inl rfl)⟩
  simp only [execOp, ho, Instr.sliceAt, hv, Sem.run_bind, pureEval_run hu, Result.andThen_ok, Instr.slice, Option.map_none]
  rw [sliceBounds_ok (fun x e => ht x (by simp [ho, Op.operands, e])) (fun x e => ht x (by simp [ho, Op.operands, e])) hl hh hc (by omega) (by omega) (by omega)]
  simp only [Result.andThen_ok, pureEval_run hs, Sem.run_pure, Sem.run_bind, h1, h2', Int.toNat_zero, e0]

theorem opS_slice3 {t elem : TypeId} {p q1 q2 : Operand} {lo : Option Operand} {nl : Bool} {sz n : Nat} {el : Nat → List AV} {own : Own} {l : Option Int} {h m : Int} (ho : o.op = .slice t p lo (some q1) (some q2))
    (hu : pureEval P (underlying t) = some (.slice elem)) (hs : pureEval P (Go.sizeOf elem) = some sz) (hp : opdA T p = .rsl nl sz n el own) (hl : optInt T lo = some l) (hh : optInt T (some q1) = some (some h)) (hm : optInt T (some q2) = some (some m))
    (h1 : 0 ≤ l.getD 0) (h2 : l.getD 0 ≤ h) (h3 : h = m) (h4 : m ≤ n) : OpS P o T H (.rsl nl sz (h.toNat - (l.getD 0).toNat) (fun i => el (i + (l.getD 0).toNat)) .tight) := by
  refine opS_intro fun E w0 w ρ hg ht => ?_
  have hr := ht p (by simp [ho, Op.operands, Call.operands])
  rw [hp] at hr
  generalize hv : ρ p = v at hr
  obtain ⟨A, c, rfl, hc, _⟩ := rel_slice_form hr
  refine ⟨_, ?_, slice_rel (l := (l.getD 0).toNat) (h := h.toNat) (m := m.toNat) hr (by omega) (by omega) (by omega) (by omega) .tight (.inr ⟨rfl, by omega⟩)⟩
  rcases optInt_eval (fun x e => ht x (by cases e; simp [ho, Op.operands])) hh with ⟨e, _⟩ | ⟨x, k, i, e, e', hx⟩
  · cases e
  cases e
  cases e'
  rcases optInt_eval (fun x e => ht x (by cases e; simp [ho, Op.operands])) hm with ⟨e, _⟩ | ⟨x, k, i, e, e', hx2⟩
  · cases e
  cases e
  cases e'
  simp only [execOp, ho, Instr.sliceAt, hv, Sem.run_bind, pureEval_run hu, Result.andThen_ok, Instr.slice, Option.map_some, hx, hx2, Instr.sliceBounds]
  rw [sliceBound_ok (by omega) (by omega)]
  simp only [Result.andThen_ok]
  rw [sliceBound_ok (by omega) (by omega)]
  simp only [Result.andThen_ok]
  rcases optInt_eval (fun x e => ht x (by simp [ho, Op.operands, e])) hl with ⟨rfl, rfl⟩ | ⟨y, k, i, rfl, rfl, hy⟩
  · simp only [Option.map_none, Option.getD_none, Sem.run_pure, Result.andThen_ok, pureEval_run hs, Sem.run_bind]
    rfl
  · simp only [Option.map_some, hy, Option.getD_some, Sem.run_bind] at *
    rw [sliceBound_ok (by omega) (by omega)]
    simp only [Result.andThen_ok, Sem.run_pure, pureEval_run hs, Sem.run_bind]
end
end Go.Proofs.YtiipaliigpkfhaaGreat.Ab

/- Part 8: append. -/
set_option linter.unusedVariables false
set_option linter.unusedSimpArgs false
namespace Go.Proofs.YtiipaliigpkfhaaGreat.Ab
open Go Go.RowKit

/-! ### The source -/
def strEl (s : ByteArray) : Nat → List AV := fun i => [.sc (.int .u8 ((s.data.toList.getD i 0).toNat : Int))]

def srcA (sz : Nat) : AV → Option (Nat × (Nat → List AV))
  | .rsl _ sz' m el _ => if sz' = sz ∨ m = 0 then some (m, el) else none
  | .sc (.string s) => if sz = 1 then some (s.size, strEl s) else none
  | _ => none

theorem cells_of_slice {E : Env} {w0 w : World} {H : AHeap} (hg : Good E H w0 w) {sz n : Nat} {el : Nat → List AV} {b off : Nat} {u : Nat → Nat → Value}
    (hl : ∀ i, i < n → (el i).length = sz) (h : ∀ i, i < n → ∀ j x, (el i)[j]? = some x → E.S b (off + i * sz + j) = some (u i j)) :
    ∀ (j : Nat) (v : Value), ((List.range (n * sz)).map fun k => u (k / sz) (k % sz))[j]? = some v → E.S b (off + j) = some v := by
  intro j v hj
  rw [List.getElem?_map] at hj
  cases hr : (List.range (n * sz))[j]? with
  | none => rw [hr] at hj; cases hj
  | some k =>
    rw [hr] at hj
    simp only [Option.map_some, Option.some.injEq] at hj
    have hjm : j < n * sz := by simpa using (List.getElem?_eq_some_iff.1 hr).1
    have hk : k = j := by
      have := List.getElem?_range hjm
      rw [hr] at this
      simpa using this
    subst hk
    have hsz : 0 < sz := by
      rcases Nat.eq_zero_or_pos sz with h0 | h0
      · subst h0; simp at hjm
      · exact h0
    have hi : k / sz < n := (Nat.div_lt_iff_lt_mul hsz).2 hjm
    have hm : k % sz < (el (k / sz)).length := by rw [hl _ hi]; exact Nat.mod_lt _ hsz
    have := h _ hi (k % sz) _ (List.getElem?_eq_getElem hm)
    rw [show off + k = off + k / sz * sz + k % sz by have := Nat.div_add_mod k sz; rw [Nat.mul_comm] at this; omega]
    rw [this, hj]

theorem range_getD {n sz i j : Nat} {u : Nat → Nat → Value} (hi : i < n) (hj : j < sz) : ((List.range (n * sz)).map fun k => u (k / sz) (k % sz)).getD (i * sz + j) undef = u i j := by
  have h1 : (i + 1) * sz ≤ n * sz := Nat.mul_le_mul_right _ hi
  rw [Nat.add_mul] at h1
  have hlt : i * sz + j < n * sz := by omega
  rw [List.getD_eq_getElem?_getD, List.getElem?_map, List.getElem?_range hlt]
  simp only [Option.map_some, Option.getD_some]
  have hd : (i * sz + j) / sz = i := by
    rw [Nat.mul_comm, Nat.mul_add_div (by omega), Nat.div_eq_of_lt hj]
    simp
  have hm : (i * sz + j) % sz = j := by
    rw [Nat.mul_comm, Nat.mul_add_mod, Nat.mod_eq_of_lt hj]
  rw [hd, hm]

/-- What the source gives. -/
theorem src_run {P : Program} {E : Env} {w0 w : World} {H : AHeap} (hg : Good E H w0 w) {sz m : Nat} {x : AV} {v : Value} {el : Nat → List AV} (hr : Rel E x v) (h : srcA sz x = some (m, el)) :
    (Builtin.lenOf v).run P w = .ok m w ∧ ∃ us : List Value, us.length = m * sz ∧ (Builtin.firstCells sz m v).run P w = .ok us.toArray w ∧
      (∀ i, i < m → (el i).length = sz ∧ ∀ x, x ∈ el i → oneC x = true) ∧ ∀ i, i < m → ∀ j x, (el i)[j]? = some x → Rel E.data x (us.getD (i * sz + j) undef) := by
  cases hr with
  | rnil sz' el' own hown =>
    simp only [srcA, or_true, if_true, Option.some.injEq, Prod.mk.injEq] at h
    obtain ⟨rfl, rfl⟩ := h
    exact ⟨rfl, [], (Nat.zero_mul _).symm, rfl, fun i hi => by omega, fun i hi => by omega⟩
  | rodd sz' el' own a hown =>
    simp only [srcA, or_true, if_true, Option.some.injEq, Prod.mk.injEq] at h
    obtain ⟨rfl, rfl⟩ := h
    exact ⟨rfl, [], (Nat.zero_mul _).symm, by simp [Builtin.firstCells, loadCells, loadCellsFrom, Sem.run], fun i hi => by omega, fun i hi => by omega⟩
  | rsl sz' n el' own b off c u hn ho hc hl h1 hS hk =>
    simp only [srcA] at h
    split at h
    · rename_i hsz
      simp only [Option.some.injEq, Prod.mk.injEq] at h
      obtain ⟨rfl, rfl⟩ := h
      rcases Nat.eq_zero_or_pos n with h0 | h0
      · subst h0
        refine ⟨rfl, [], by simp, ?_, fun i hi => by omega, fun i hi => by omega⟩
        simp [Builtin.firstCells, loadCells, loadCellsFrom, Sem.run]
      · have : sz' = sz := by omega
        subst this
        refine ⟨rfl, (List.range (n * sz')).map fun k => u (k / sz') (k % sz'), by simp, ?_, fun i hi => ⟨hl i hi, h1 i hi⟩, fun i hi j x hj => ?_⟩
        · have := loadCellsFrom_run (P := P) (w := w) (b := b) (off := off) (n * sz') 0 #[] ((List.range (n * sz')).map fun k => u (k / sz') (k % sz')) (by simp) (fun j v hj => by
            rw [Nat.zero_add]
            exact hg.snap (cells_of_slice hg hl hS j v hj))
          simp only [Builtin.firstCells, loadCells, this]
          rw [Array.empty_append]
        · rw [range_getD hi (by rw [← hl i hi]; exact (List.getElem?_eq_some_iff.1 hj).1)]
          exact hk i hi j x hj
    · cases h
  | sc v hp =>
    cases v with
    | string s =>
      simp only [srcA] at h
      split at h
      · rename_i hsz
        subst hsz
        simp only [Option.some.injEq, Prod.mk.injEq] at h
        obtain ⟨rfl, rfl⟩ := h
        refine ⟨rfl, s.data.toList.map fun b => .int .u8 b.toNat, by simp, ?_, fun i hi => ⟨rfl, fun x hx => by simp [strEl] at hx; subst hx; rfl⟩, fun i hi j x hj => ?_⟩
        · have e : s.extract 0 s.size = s := by simp
          simp only [Builtin.firstCells, e, Sem.run_pure]
          congr 1
          apply Array.ext'
          simp
        · cases j with
          | succ j => simp [strEl] at hj
          | zero =>
            simp [strEl] at hj
            subst hj
            have hi' : i < s.data.toList.length := by simpa using hi
            have e : (s.data.toList.map fun b => Value.int .u8 (b.toNat : Int)).getD (i * 1 + 0) undef = .int .u8 ((s.data.toList.getD i 0).toNat : Int) := by
              simp only [Nat.mul_one, Nat.add_zero, List.getD_eq_getElem?_getD, List.getElem?_map]
              rw [List.getElem?_eq_getElem hi']
              rfl
            rw [e]
            have e2 : s.data[i]?.getD 0 = s.data.toList.getD i 0 := by simp
            rw [e2]
            exact Rel.sc (.int .u8 _) rfl
      · cases h
    | _ => simp [srcA] at h
  | _ => simp [srcA] at h

/-! ### The tail's record is written anew -/
def setL (H : AHeap) (t : Nat) (o : AObj) : AHeap := if t < H.length then H.set t o else H ++ [o]

def Env.grown (E : Env) (b : Nat) (arr : Array Value) (k t n c : Nat) : Env :=
  { φ := E.φ, S := fun x o => if x = b then (E.S b o).or (if o < k then arr[o]? else none) else E.S x o, G := fun x m => if x = t ∧ m = n then some (b, c) else E.G x m }

section
variable {E : Env} {H : AHeap} {w0 w : World}

theorem grown_le {b k t n c : Nat} {arr : Array Value} (h : E.G t n = none) : E.le (E.grown b arr k t n c) :=
  ⟨fun h => h, fun {x o u} hs => by
    by_cases hx : x = b
    · subst hx; simp [Env.grown, hs]
    · simpa [Env.grown, hx] using hs,
   fun {x m y} hx => by
    have : ¬ (x = t ∧ m = n) := fun ⟨e1, e2⟩ => by subst e1; subst e2; rw [h] at hx; cases hx
    simpa [Env.grown, this] using hx⟩

theorem setL_self {t : Nat} {o : AObj} (ht : t ≤ H.length) : (setL H t o)[t]? = some o := by
  unfold setL
  split
  · rename_i h; exact List.getElem?_set_self h
  · have : t = H.length := by omega
    subst this
    simp

theorem setL_ne {t l : Nat} {o : AObj} (ht : t ≤ H.length) (h : l ≠ t) : (setL H t o)[l]? = H[l]? := by
  unfold setL
  split
  · exact List.getElem?_set_ne (Ne.symm h)
  · have : t = H.length := by omega
    subst this
    rcases Nat.lt_or_ge l H.length with hl | hl
    · exact List.getElem?_append_left hl
    · rw [List.getElem?_eq_none (by simp; omega), List.getElem?_eq_none hl]

theorem setL_length {t : Nat} {o : AObj} (ht : t ≤ H.length) : (setL H t o).length = if t < H.length then H.length else H.length + 1 := by
  unfold setL
  split <;> simp

theorem Good.retail (hg : Good E H w0 w) {t n sz b c : Nat} {arr : Array Value} {T : TypeId} (ht : t ≤ H.length) (hfree : ∀ l, owns E H l b → l = t) (hbase : w0.heap.size ≤ b) (hb : w.heap[b]? = some (.cells arr T (0, 0))) (hsz : arr.size = c * sz)
    (hnc : n ≤ c) (hcm : c ≤ maxLen) (hS : ∀ o, n * sz ≤ o → E.S b o = none) (hG : ∀ m, n ≤ m → E.G t m = none) : Good (E.grown b arr (n * sz) t n c) (setL H t (.tail n sz)) w0 w := by
  have hle : E.le (E.grown b arr (n * sz) t n c) := grown_le (hG n (Nat.le_refl _))
  refine ⟨hg.below, ?_, ?_, ?_, ?_, hg.φlt⟩
  · intro x o u h
    by_cases hx : x = b
    · subst hx
      simp only [Env.grown, if_true] at h
      cases hs : E.S x o with
      | none =>
        rw [hs] at h
        simp only [Option.none_or] at h
        split at h
        · rw [cell_at hb]; exact h
        · cases h
      | some v => rw [hs] at h; simp at h; subst h; exact hg.snap hs
    · simp only [Env.grown, hx, if_false] at h; exact hg.snap h
  · intro l o h
    by_cases hl : l = t
    · subst hl
      rw [setL_self ht] at h
      simp only [Option.some.injEq] at h
      subst h
      refine ⟨b, c, arr, T, by simp [Env.grown], hbase, hb, hsz, hnc, hcm, fun o ho => ?_, fun m hm => ?_⟩
      · simp only [Env.grown, if_true, hS o ho, Option.none_or]
        rw [if_neg (by omega)]
      · simp only [Env.grown]
        rw [if_neg (by omega)]
        exact hG m (by omega)
    · rw [setL_ne ht hl] at h
      refine (hg.obj h).step h hle (fun _ h => h) (fun m => ?_) (fun x o' ho _ hn => ?_) (fun _ _ => rfl)
      · simp [Env.grown, hl]
      · have : x ≠ b := fun e => hl (hfree l (e ▸ ho))
        simpa [Env.grown, this] using hn
  · have key : ∀ l x, owns (E.grown b arr (n * sz) t n c) (setL H t (.tail n sz)) l x → (l = t ∧ x = b) ∨ (l ≠ t ∧ owns E H l x) := by
      intro l x h
      by_cases hl : l = t
      · subst hl
        unfold owns at h
        rw [setL_self ht] at h
        obtain ⟨c', hc'⟩ := h
        simp [Env.grown] at hc'
        exact .inl ⟨rfl, hc'.1.symm⟩
      · refine .inr ⟨hl, ?_⟩
        unfold owns at *
        rw [setL_ne ht hl] at h
        cases ho : H[l]? with
        | none => rw [ho] at h; exact h
        | some o =>
          rw [ho] at h
          cases o with
          | dead => exact h
          | cells cs => exact h
          | map es => exact h
          | iter m => exact h
          | mark k => exact h
          | tail n' sz' => obtain ⟨c', hc'⟩ := h; exact ⟨c', by simpa [Env.grown, hl] using hc'⟩
    intro l l' x h h'
    rcases key _ _ h with ⟨h1, h2⟩ | ⟨h1, h2⟩ <;> rcases key _ _ h' with ⟨h3, h4⟩ | ⟨h3, h4⟩
    · rw [h1, h3]
    · subst h2; exact absurd (hfree _ h4) h3
    · subst h4; exact absurd (hfree _ h2) h1
    · exact hg.sep h2 h4
  · intro l hl
    have hl' : H.length ≤ l ∧ l ≠ t := by
      rw [setL_length ht] at hl
      split at hl <;> omega
    have := hg.fresh hl'.1
    exact ⟨this.1, fun m => by simp [Env.grown, hl'.2, this.2 m]⟩

theorem owns_retail {t n sz b c k l x : Nat} {arr : Array Value} (ht : t ≤ H.length) (h : owns (E.grown b arr k t n c) (setL H t (.tail n sz)) l x) : owns E H l x ∨ x = b := by
  by_cases hl : l = t
  · subst hl
    refine .inr ?_
    unfold owns at h
    rw [setL_self ht] at h
    obtain ⟨c', hc⟩ := h
    simp [Env.grown] at hc
    exact hc.1.symm
  · refine .inl ?_
    unfold owns at h ⊢
    rw [setL_ne ht hl] at h
    cases ho : H[l]? with
    | none => rw [ho] at h; exact h
    | some q =>
      rw [ho] at h
      cases q with
      | dead => exact h
      | cells cs => exact h
      | tail n' sz' => obtain ⟨c', hc⟩ := h; exact ⟨c', by simpa [Env.grown, hl] using hc⟩
      | map es => exact h
      | iter m => exact h
      | mark k => exact h

theorem retail_ext {n0 : Nat} {W : Nat → Prop} {t n sz b c k : Nat} {arr : Array Value} (hown : owns E H t b) (ht : t ≤ H.length) (hW : t < n0 → W t) (hn0 : n0 ≤ H.length) (hG : E.G t n = none) : Ext n0 W E H w (E.grown b arr k t n c) (setL H t (.tail n sz)) w :=
  ⟨grown_le hG, Nat.le_refl _, by rw [setL_length ht]; split <;> omega, fun {l} hl hw => setL_ne ht (fun e => hw (e ▸ hW (e ▸ hl))), fun _ _ _ => rfl, fun _ => rfl, fun {x} hx h => ⟨rfl, fun l ho => (owns_retail ht ho).elim (h l) (fun e => h t (e ▸ hown)), fun o => (by have hx' : x ≠ b := (fun e => h t (e ▸ hown)); simp [Env.grown, hx'])⟩⟩

theorem new_retail_ext {n0 : Nat} {W : Nat → Prop} {t n sz c k : Nat} {arr : Array Value} (g : Good E H w0 w) (ob : Obj) (ht : t ≤ H.length) (hW : t < n0 → W t) (hn0 : n0 ≤ H.length) (hG : E.G t n = none) : Ext n0 W E H w (E.grown w.heap.size arr k t n c) (setL H t (.tail n sz)) (w.alloc ob) :=
  ⟨grown_le hG, by rw [alloc_size]; omega, by rw [setL_length ht]; split <;> omega, fun {l} hl hw => setL_ne ht (fun e => hw (e ▸ hW (e ▸ hl))), fun _ _ ho => Below.heap_alloc w ob _ (g.ownlt ho), fun _ => rfl,
   fun {x} hx h => ⟨Below.heap_alloc w ob _ hx, fun l ho => (owns_retail ht ho).elim (h l) (fun e => by omega), fun o => (by have hx' : x ≠ w.heap.size := (by omega); simp [Env.grown, hx'])⟩⟩

/-- What the new row reads as. -/
theorem grown_rel {t n m sz b c : Nat} {arr : Array Value} {el el2 : Nat → List AV} {us vs : List Value} (hG : E.G t (n + m) = none) (hcm : c ≤ maxLen) (hnc : n + m ≤ c)
    (hS : ∀ o, E.S b o ≠ none → E.S b o = arr[o]?)
    (hu : us.length = n * sz) (hv : vs.length = m * sz) (harr : ∀ j, j < (n + m) * sz → arr[j]? = (us ++ vs)[j]?)
    (h1 : ∀ i, i < n → (el i).length = sz ∧ ∀ x, x ∈ el i → oneC x = true) (k1 : ∀ i, i < n → ∀ j x, (el i)[j]? = some x → Rel E.data x (us.getD (i * sz + j) undef))
    (h2 : ∀ i, i < m → (el2 i).length = sz ∧ ∀ x, x ∈ el2 i → oneC x = true) (k2 : ∀ i, i < m → ∀ j x, (el2 i)[j]? = some x → Rel E.data x (vs.getD (i * sz + j) undef)) :
    Rel (E.grown b arr ((n + m) * sz) t (n + m) c) (.rsl false sz (n + m) (fun i => if i < n then el i else el2 (i - n)) (.tok t)) (.slice (some ⟨b, 0, none⟩) (n + m) c) := by
  have hle : E.le (E.grown b arr ((n + m) * sz) t (n + m) c) := grown_le hG
  have hmul : (n + m) * sz = n * sz + m * sz := Nat.add_mul _ _ _
  refine .rsl sz (n + m) _ (.tok t) b 0 c (fun i j => (us ++ vs).getD (i * sz + j) undef) hcm ⟨by simp [Env.grown], rfl, hnc⟩ hnc (fun i hi => ?_) (fun i hi x hx => ?_) (fun i hi j x hj => ?_) (fun i hi j x hj => ?_)
  · split
    · exact (h1 i ‹_›).1
    · exact (h2 (i - n) (by omega)).1
  · split at hx
    · exact (h1 i ‹_›).2 x hx
    · exact (h2 (i - n) (by omega)).2 x hx
  · have hjs : j < sz := by
      have := (List.getElem?_eq_some_iff.1 hj).1
      split at this
      · rw [(h1 i ‹_›).1] at this; exact this
      · rw [(h2 (i - n) (by omega)).1] at this; exact this
    have hlt : i * sz + j < (n + m) * sz := by
      have : (i + 1) * sz ≤ (n + m) * sz := Nat.mul_le_mul_right _ hi
      rw [Nat.add_mul] at this
      omega
    have ha := harr _ hlt
    have hg : (us ++ vs)[i * sz + j]? = some ((us ++ vs).getD (i * sz + j) undef) := by
      have : i * sz + j < (us ++ vs).length := by rw [List.length_append, hu, hv]; omega
      rw [List.getD_eq_getElem?_getD, List.getElem?_eq_getElem this]
      rfl
    rw [Nat.zero_add]
    simp only [Env.grown, if_true]
    cases hs : E.S b (i * sz + j) with
    | none => simp only [Option.none_or, if_pos hlt]; rw [ha, hg]
    | some u =>
      have := hS (i * sz + j) (by rw [hs]; simp)
      rw [hs, ha, hg] at this
      simp only [Option.some_or]
      exact this
  · refine Rel.mono ?_ hle.data
    split at hj
    · have hjs : j < sz := by rw [← (h1 i ‹_›).1]; exact (List.getElem?_eq_some_iff.1 hj).1
      have hlt : i * sz + j < us.length := by
        have : (i + 1) * sz ≤ n * sz := Nat.mul_le_mul_right _ ‹_›
        rw [Nat.add_mul] at this
        omega
      rw [List.getD_eq_getElem?_getD, List.getElem?_append_left hlt, ← List.getD_eq_getElem?_getD]
      exact k1 i ‹_› j x hj
    · have hin : i - n < m := by omega
      have hge : us.length ≤ i * sz + j := by
        have : n * sz ≤ i * sz := Nat.mul_le_mul_right _ (by omega)
        omega
      rw [List.getD_eq_getElem?_getD, List.getElem?_append_right hge, ← List.getD_eq_getElem?_getD]
      have e : i * sz + j - us.length = (i - n) * sz + j := by
        rw [hu, Nat.sub_mul]
        have : n * sz ≤ i * sz := Nat.mul_le_mul_right _ (by omega)
        omega
      rw [e]
      exact k2 _ hin j x hj
end
end Go.Proofs.YtiipaliigpkfhaaGreat.Ab

/- Part 9: the builtin append. -/
set_option linter.unusedVariables false
set_option linter.unusedSimpArgs false
namespace Go.Proofs.YtiipaliigpkfhaaGreat.Ab
open Go Go.RowKit

def stor (v : Value) : Prop := (∀ cs, v ≠ .agg cs) ∧ ∀ cs, v ≠ .tuple cs

theorem stor_run {v : Value} (h : stor v) {α : Type} (P : Program) (m : Mode) (a : Addr) (k : Sem α) (w : World) :
    (Sem.store m a v k).run P w = match w.cell? a with
      | some _ => if w.frozen? a then .halt (.unsupported (.unsafePointer "a write to bytes that a string shares")) w else k.run P (w.setCell a v)
      | none => match w.farStore P a v (m == .atomic) with
        | .ok (w, _) => k.run P w
        | .error h => .halt h w := by
  cases v with
  | agg cs => exact absurd rfl (h.1 cs)
  | tuple cs => exact absurd rfl (h.2 cs)
  | _ => rfl

theorem stor_of {E : Env} {x : AV} {v : Value} (h : Rel E x v) (hx : oneC x = true) : stor v := by
  cases h with
  | any v => simp [oneC] at hx
  | agg cs us hl k => simp [oneC] at hx
  | tup cs us hl k => simp [oneC] at hx
  | sc v hp => cases v <;> first | (exfalso; simp [plain] at hp; done) | exact ⟨fun _ => by simp, fun _ => by simp⟩
  | _ => exact ⟨fun _ => by simp, fun _ => by simp⟩

section
variable {P : Program} {o : Oper} {T : List AV} {H : AHeap} {E : Env} {w0 w : World}

theorem Good.drew (g : Good E H w0 w) : Good E H w0 w.drew :=
  ⟨g.below.drew, fun h => g.snap h, fun h => g.obj h, g.sep, g.fresh, g.φlt⟩

theorem drew_ext (n0 : Nat) (W : Nat → Prop) : Ext n0 W E H w E H w.drew := ⟨.refl E, Nat.le_refl _, Nat.le_refl _, fun _ _ => rfl, fun _ _ _ => rfl, fun _ => rfl, fun _ h => ⟨rfl, h, fun _ => rfl⟩⟩

/-- A store into a tail's free part. -/
theorem Good.setTail (g : Good E H w0 w) {t n sz b c j : Nat} (hH : H[t]? = some (.tail n sz)) (hG : E.G t n = some (b, c)) (hj : n * sz ≤ j) (v : Value) : Good E H w0 (w.setCell ⟨b, j, none⟩ v) := by
  obtain ⟨b', c', arr, Ty, h1, h2, h3, h4, h5, h6, h7, h8⟩ := g.obj hH
  rw [hG] at h1
  simp only [Option.some.injEq, Prod.mk.injEq] at h1
  obtain ⟨rfl, rfl⟩ := h1
  have hown : owns E H t b := by unfold owns; rw [hH]; exact ⟨c, hG⟩
  refine ⟨g.below.setCell h2 v, ?_, ?_, g.sep, g.fresh, fun h => by have := g.φlt h; simpa [World.setCell] using this⟩
  · intro x o u h
    by_cases hx : x = b
    · subst hx
      have hlt : o < n * sz := by
        rcases Nat.lt_or_ge o (n * sz) with h' | h'
        · exact h'
        · rw [h7 o h'] at h; cases h
      have := g.snap h
      rw [cell_at h3] at this
      have hb : (w.setCell ⟨x, j, none⟩ v).heap[x]? = some (.cells (arr.setIfInBounds j v) Ty (0, 0)) := by simp [World.setCell, Array.getElem?_modify, h3]
      rw [cell_at hb, Array.getElem?_setIfInBounds_ne (by omega)]
      exact this
    · rw [cell_same (Below.heap_setCell w ⟨b, j, none⟩ v x hx)]
      exact g.snap h
  · intro l o h
    by_cases hl : l = t
    · subst hl
      rw [hH] at h
      simp only [Option.some.injEq] at h
      subst h
      refine ⟨b, c, arr.setIfInBounds j v, Ty, hG, h2, ?_, by simp [h4], h5, h6, h7, h8⟩
      simp [World.setCell, Array.getElem?_modify, h3]
    · refine (g.obj h).step h (.refl E) (fun _ h => h) (fun _ => rfl) (fun _ _ _ _ h => h) (fun x hx => ?_)
      refine Below.heap_setCell w ⟨b, j, none⟩ v x (fun e => hl ?_)
      simp only at e
      subst e
      exact g.sep hx hown

theorem setTail_ext {n0 : Nat} {W : Nat → Prop} (g : Good E H w0 w) {t n sz b c j : Nat} (hH : H[t]? = some (.tail n sz)) (hG : E.G t n = some (b, c)) (hW : t < n0 → W t) (v : Value) : Ext n0 W E H w E H (w.setCell ⟨b, j, none⟩ v) := by
  have hown : owns E H t b := by unfold owns; rw [hH]; exact ⟨c, hG⟩
  refine ⟨.refl E, by simp [World.setCell], Nat.le_refl _, fun _ _ => rfl, fun {l x} hl hw ho => ?_, fun _ => rfl, fun {x} hx h => ⟨Below.heap_setCell w ⟨b, j, none⟩ v x (fun e => by simp only at e; subst e; exact h _ hown), h, fun _ => rfl⟩⟩
  refine Below.heap_setCell w ⟨b, j, none⟩ v x (fun e => ?_)
  simp only at e
  subst e
  have := g.sep ho hown
  subst this
  exact hw (hW hl)

theorem storeTail_run {t n sz b c n0 : Nat} {W : Nat → Prop} {Ty : TypeId} (hH : H[t]? = some (.tail n sz)) (hG : E.G t n = some (b, c)) (hW : t < n0 → W t) : ∀ (vs : List Value) (off i : Nat) (w : World) (arr : Array Value),
    Good E H w0 w → w.heap[b]? = some (.cells arr Ty (0, 0)) → (∀ v ∈ vs, stor v) → n * sz ≤ off + i → off + i + vs.length ≤ arr.size →
    ∃ w' arr', (storeCells ⟨b, off, none⟩ vs i).run P w = .ok () w' ∧ Good E H w0 w' ∧ Ext n0 W E H w E H w' ∧ w'.heap[b]? = some (.cells arr' Ty (0, 0)) ∧ arr'.size = arr.size ∧
      ∀ j, arr'[j]? = if off + i ≤ j ∧ j < off + i + vs.length then vs[j - (off + i)]? else arr[j]?
  | [], off, i, w, arr, g, hb, hs, hn, hl => ⟨w, arr, rfl, g, .refl _ _ _ _ _, hb, rfl, fun j => by rw [if_neg (by simp)]⟩
  | v :: r, off, i, w, arr, g, hb, hs, hn, hl => by
    simp only [List.length_cons] at hl
    have hb1 : (w.setCell ⟨b, off + i, none⟩ v).heap[b]? = some (.cells (arr.setIfInBounds (off + i) v) Ty (0, 0)) := by simp [World.setCell, Array.getElem?_modify, hb]
    obtain ⟨w', arr', hrun, g', e', hb', hsz', hget⟩ := storeTail_run hH hG hW r off (i + 1) _ _ (g.setTail hH hG (j := off + i) hn v) hb1 (fun x hx => hs x (List.mem_cons_of_mem _ hx)) (by omega) (by simp; omega)
    refine ⟨w', arr', ?_, g', (setTail_ext g hH hG hW v).trans e', hb', by simpa using hsz', fun j => ?_⟩
    · unfold storeCells
      rw [Sem.run_bind]
      have h1 : (store ((⟨b, off, none⟩ : Addr).add i) v).run P w = .ok () (w.setCell ⟨b, off + i, none⟩ v) := by
        rw [add_plain']
        unfold store
        rw [stor_run (hs v List.mem_cons_self), cell_at hb, frozen_at hb]
        have hlt : off + i < arr.size := by omega
        simp [hlt, Sem.run]
      rw [h1]
      exact hrun
    · rw [hget j]
      by_cases hj : j = off + i
      · subst hj
        have hlt : off + i < arr.size := by omega
        rw [if_neg (by omega), if_pos (by simp)]
        simp [hlt]
      · by_cases h1 : off + (i + 1) ≤ j ∧ j < off + (i + 1) + r.length
        · rw [if_pos h1, if_pos (by simp; omega)]
          rw [show j - (off + i) = (j - (off + (i + 1))) + 1 by omega]
          simp
        · rw [if_neg h1, if_neg (by simp; omega), Array.getElem?_setIfInBounds_ne (Ne.symm hj)]

theorem nextcap_le {need cap : Nat} (h : cap < need) : Builtin.nextslicecap need cap ≤ 2 * need := by
  unfold Builtin.nextslicecap
  split
  · omega
  · split
    · omega
    · have step : ∀ c, 256 ≤ c → c < need → c + (c + 768) / 4 ≤ 2 * need := by intro c h1 h2; omega
      have key : ∀ (k c : Nat), 256 ≤ c → c ≤ 2 * need → Builtin.growBy need k c ≤ 2 * need := by
        intro k
        induction k with
        | zero => intro c _ h; exact h
        | succ k ih =>
          intro c h1 h2
          unfold Builtin.growBy
          split
          · exact h2
          · exact ih _ (by omega) (step c h1 (by omega))
      exact key 4 cap (by omega) (by omega)

theorem run_appendCap {α : Type} (need old : Nat) (elem : TypeId) (k : Nat → Sem α) (w : World) (hn : need < 2 ^ 63) :
    ∃ c, need ≤ c ∧ c ≤ maxLen ∧ (choose (.appendCap need old elem) >>= k).run P w = (k c).run P w.drew := by
  refine ⟨need + w.tape w.drawn (.appendCap need old elem) % (2 ^ 63 - need), Nat.le_add_right _ _, ?_, ?_⟩
  · have : w.tape w.drawn (.appendCap need old elem) % (2 ^ 63 - need) < 2 ^ 63 - need := Nat.mod_lt _ (by omega)
    unfold maxLen
    omega
  · rw [Sem.run_bind]
    simp only [choose, Sem.run, Question.forced, Question.cut, Bool.false_eq_true, if_false, Result.andThen_ok]
    rfl

theorem run_askRoom {α : Type} (n : Nat) (k : Unit → Sem α) (w : World) : (askRoom n >>= k).run P w = (k ()).run P w := by
  unfold askRoom
  split
  · rw [Sem.run_bind]; rfl
  · simp

/-- What is known of the types at an append. -/
structure AppT (P : Program) (c : Call) (p q : Operand) (sz bytes : Nat) : Prop where
  callee : c.callee = .builtin .append
  args : c.args = #[p, q]
  ty : ∃ t t2 elem i z d, c.argTypes = #[t, t2] ∧ pureEval P (underlying t) = some (.slice elem) ∧ pureEval P (Go.sizeOf elem) = some sz ∧ pureEval P (typeInfo elem) = some i ∧ i.bytes = bytes ∧
    pureEval P (zeroValue elem) = some z ∧ z.cells.size = sz ∧ pureEval P (underlying t2) = some d ∧ ∀ k, d ≠ .int k

theorem zeroCells_size (z : Array Value) (n : Nat) : (Builtin.zeroCells z n).size = n * z.size := by simp [Builtin.zeroCells]

/-- An append that makes a new row. -/
theorem append_moves {c : Call} {p q : Operand} {sz bytes : Nat} (hc : AppT P c p q sz bytes) {ρ : Operand → Value} (hrq : Rel E (opdA T q) (ρ q)) (g : Good E H w0 w) {nl : Bool} {n m k : Nat} {el el2 : Nat → List AV} {own : Own} {A : Option Addr} (ho : o.op = .call c)
    (hp : Rel E (.rsl nl sz n el own) (ρ p)) (hv : ρ p = .slice A n k) (hq : srcA sz (opdA T q) = some (m, el2)) (hk : k < n + m) (hbig : (n + m) * bytes ≤ 2 ^ 46) (hlen : n + m < 2 ^ 62) {t n0 : Nat} {W : Nat → Prop} (hn0 : n0 ≤ H.length)
    (htl : t ≤ H.length) (hW : t < n0 → W t) (hG : ∀ j, n + m ≤ j → E.G t j = none) :
    ∃ E' v w', (execOp ρ o).run P w = .ok (.value v) w' ∧ Ext n0 W E H w E' (setL H t (.tail (n + m) sz)) w' ∧ Good E' (setL H t (.tail (n + m) sz)) w0 w' ∧
      Rel E' (.rsl false sz (n + m) (fun i => if i < n then el i else el2 (i - n)) (.tok t)) v := by
  obtain ⟨hcal, hargs, ty, t2, elem, i, z, d, hat, hu, hs, hi, hib, hz, hzs, hu2, hd⟩ := hc
  have hd' : ∀ (w : World), (underlying t2).run P w = .ok d w := pureEval_run hu2
  have hsrc1 : srcA sz (.rsl nl sz n el own) = some (n, el) := by simp [srcA]
  obtain ⟨c', hc1, hc2, hdraw⟩ := run_appendCap (P := P) (n + m) k elem (fun newCap => do
      askRoom (newCap * (← typeInfo elem).bytes)
      let old ← Builtin.firstCells sz n (.slice A n k)
      let new ← Builtin.firstCells sz m (ρ q)
      let rest := Builtin.zeroCells (← zeroValue elem).cells (newCap - (n + m))
      pure (Value.slice (some (← newRow elem (old ++ new ++ rest))) (n + m) newCap)) w (by omega)
  have g1 : Good E H w0 w.drew := g.drew
  obtain ⟨-, us, hul, hur, hu1, hu2'⟩ := src_run (P := P) g1 hp hsrc1
  obtain ⟨hvlen0, -⟩ := src_run (P := P) g hrq hq
  obtain ⟨-, vs, hvl, hvr, hv1, hv2⟩ := src_run (P := P) g1 hrq hq
  rw [hv] at hur
  let arr : Array Value := us.toArray ++ vs.toArray ++ Builtin.zeroCells z.cells (c' - (n + m))
  have hsz : arr.size = c' * sz := by
    simp only [arr, Array.size_append, List.size_toArray, zeroCells_size, hul, hvl, hzs]
    rw [← Nat.add_mul, ← Nat.add_mul]
    congr 1
    omega
  have g2 : Good E H w0 (w.drew.alloc (.cells arr elem)) := g1.push _
  have hb : (w.drew.alloc (.cells arr elem)).heap[w.drew.heap.size]? = some (.cells arr elem (0, 0)) := heap_alloc_new _ _
  have hfree : ∀ l, owns E H l w.drew.heap.size → l = t := fun l hl => absurd (g1.ownlt hl) (Nat.lt_irrefl _)
  have hSn : ∀ o, E.S w.drew.heap.size o = none := fun o => S_new_none g1 o
  refine ⟨E.grown w.drew.heap.size arr ((n + m) * sz) t (n + m) c', .slice (some ⟨w.drew.heap.size, 0, none⟩) (n + m) c', w.drew.alloc (.cells arr elem), ?_, ?_, ?_, ?_⟩
  · have hrun : (Builtin.append_ c.argTypes o.type #[ρ p, ρ q]).run P w = .ok (.slice (some ⟨w.drew.heap.size, 0, none⟩) (n + m) c') (w.drew.alloc (.cells arr elem)) := by
      rw [hat, hv]
      unfold Builtin.append_
      simp only [List.getElem?_toArray, List.getElem?_cons_zero, List.getElem?_cons_succ, Sem.run_bind, pureEval_run hu, pureEval_run hs, Result.andThen_ok, hd', Sem.run_pure]
      have hz0 : (match d with | .int _ => true | _ => false) = false := by
        cases d <;> first | rfl | exact absurd rfl (hd _)
      have hdr := hdraw
      simp only [Bool.false_eq_true, if_false, Bool.not_false, if_true, Sem.run_bind, hvlen0, Result.andThen_ok]
      rw [if_neg (by omega : ¬ n + m ≤ k)]
      simp only [Sem.run_bind, pureEval_run hi, Result.andThen_ok]
      have hmax : ¬ (((n + m : Nat) : Int) > IntKind.i64.max ∧ (False ∨ i.bytes = 0)) := by
        intro h
        have : (IntKind.i64.max : Int) = 9223372036854775807 := by decide
        rw [this] at h
        omega
      rw [if_neg hmax]
      simp only [Sem.run_bind, pureEval_run hi, Result.andThen_ok]
      have hcap : ¬ (Builtin.nextslicecap (n + m) k * i.bytes > 2 ^ 48) := by
        have h1 := nextcap_le hk
        have h2 : Builtin.nextslicecap (n + m) k * i.bytes ≤ 2 * (n + m) * i.bytes := Nat.mul_le_mul_right _ h1
        rw [Nat.mul_assoc, hib] at h2
        rw [hib]
        omega
      rw [if_neg hcap]
      simp only [Sem.run_bind] at hdr ⊢
      rw [hdr]
      simp only [pureEval_run hi, Result.andThen_ok]
      unfold askRoom
      have hask : ∀ b : Bool, (Sem.run P (if c' * i.bytes > roomBytes then mark Mark.noRoom else pure ()) w.drew) = .ok () w.drew := by
        intro _
        split
        · rfl
        · rfl
      rw [hask true]
      simp only [Result.andThen_ok]
      rw [hur]
      simp only [Result.andThen_ok]
      rw [hvr]
      simp only [Result.andThen_ok, pureEval_run hz]
      simp only [newRow, newObj, Sem.run_bind, Sem.run, Sem.run_pure, Result.andThen_ok]
      rfl
    simp only [execOp, ho, resolve, hcal, hargs, invoke, builtin, pure_bind]
    rw [Sem.run_bind]
    have e : (#[p, q] : Array Operand).map ρ = #[ρ p, ρ q] := by simp
    rw [e, hrun]
    rfl
  · exact (drew_ext n0 W).trans (new_retail_ext g1 _ htl hW hn0 (hG _ (Nat.le_refl _)))
  · exact g2.retail htl hfree g1.below.size hb hsz hc1 hc2 (fun o _ => hSn o) hG
  · refine grown_rel (us := us) (vs := vs) (hG _ (Nat.le_refl _)) hc2 hc1 (fun o h => absurd (hSn o) h) hul hvl (fun j hj => ?_) hu1 hu2' hv1 hv2
    have hjl : j < (us ++ vs).length := by rw [List.length_append, hul, hvl, ← Nat.add_mul]; exact hj
    have e : arr = (us ++ vs).toArray ++ Builtin.zeroCells z.cells (c' - (n + m)) := by
      simp only [arr]
      congr 1
      simp
    rw [e, Array.getElem?_append_left (by simpa using hjl)]
    simp

/-- What such an append does. -/
theorem append_run {c : Call} {p q : Operand} {sz bytes : Nat} (hc : AppT P c p q sz bytes) {ρ : Operand → Value} (hrq : Rel E (opdA T q) (ρ q)) (g : Good E H w0 w) {nl : Bool} {n m k : Nat} {el el2 : Nat → List AV} {own : Own} {A : Option Addr} (ho : o.op = .call c)
    (hp : Rel E (.rsl nl sz n el own) (ρ p)) (hv : ρ p = .slice A n k) (hq : srcA sz (opdA T q) = some (m, el2)) (hk : k < n + m) (hbig : (n + m) * bytes ≤ 2 ^ 46) (hlen : n + m < 2 ^ 62) :
    ∃ (c' : Nat) (us vs : List Value) (Z : Array Value) (elem : TypeId), n + m ≤ c' ∧ us.length = n * sz ∧ vs.length = m * sz ∧ (∀ i, i < m → (el2 i).length = sz ∧ ∀ x, x ∈ el2 i → oneC x = true) ∧ (∀ i, i < m → ∀ j x, (el2 i)[j]? = some x → Rel E.data x (vs.getD (i * sz + j) undef)) ∧
      (execOp ρ o).run P w = .ok (.value (.slice (some ⟨w.drew.heap.size, 0, none⟩) (n + m) c')) (w.drew.alloc (.cells (us.toArray ++ vs.toArray ++ Z) elem)) := by
  obtain ⟨hcal, hargs, ty, t2, elem, i, z, d, hat, hu, hs, hi, hib, hz, hzs, hu2, hd⟩ := hc
  have hd' : ∀ (w : World), (underlying t2).run P w = .ok d w := pureEval_run hu2
  have hsrc1 : srcA sz (.rsl nl sz n el own) = some (n, el) := by simp [srcA]
  obtain ⟨c', hc1, hc2, hdraw⟩ := run_appendCap (P := P) (n + m) k elem (fun newCap => do
      askRoom (newCap * (← typeInfo elem).bytes)
      let old ← Builtin.firstCells sz n (.slice A n k)
      let new ← Builtin.firstCells sz m (ρ q)
      let rest := Builtin.zeroCells (← zeroValue elem).cells (newCap - (n + m))
      pure (Value.slice (some (← newRow elem (old ++ new ++ rest))) (n + m) newCap)) w (by omega)
  have g1 : Good E H w0 w.drew := g.drew
  obtain ⟨-, us, hul, hur, hu1, hu2'⟩ := src_run (P := P) g1 hp hsrc1
  obtain ⟨hvlen0, -⟩ := src_run (P := P) g hrq hq
  obtain ⟨-, vs, hvl, hvr, hv1, hv2⟩ := src_run (P := P) g1 hrq hq
  rw [hv] at hur
  let arr : Array Value := us.toArray ++ vs.toArray ++ Builtin.zeroCells z.cells (c' - (n + m))
  have hsz : arr.size = c' * sz := by
    simp only [arr, Array.size_append, List.size_toArray, zeroCells_size, hul, hvl, hzs]
    rw [← Nat.add_mul, ← Nat.add_mul]
    congr 1
    omega
  refine ⟨c', us, vs, Builtin.zeroCells z.cells (c' - (n + m)), elem, hc1, hul, hvl, hv1, hv2, ?_⟩
  show (execOp ρ o).run P w = .ok (.value (.slice (some ⟨w.drew.heap.size, 0, none⟩) (n + m) c')) (w.drew.alloc (.cells arr elem))
  · have hrun : (Builtin.append_ c.argTypes o.type #[ρ p, ρ q]).run P w = .ok (.slice (some ⟨w.drew.heap.size, 0, none⟩) (n + m) c') (w.drew.alloc (.cells arr elem)) := by
      rw [hat, hv]
      unfold Builtin.append_
      simp only [List.getElem?_toArray, List.getElem?_cons_zero, List.getElem?_cons_succ, Sem.run_bind, pureEval_run hu, pureEval_run hs, Result.andThen_ok, hd', Sem.run_pure]
      have hz0 : (match d with | .int _ => true | _ => false) = false := by
        cases d <;> first | rfl | exact absurd rfl (hd _)
      have hdr := hdraw
      simp only [Bool.false_eq_true, if_false, Bool.not_false, if_true, Sem.run_bind, hvlen0, Result.andThen_ok]
      rw [if_neg (by omega : ¬ n + m ≤ k)]
      simp only [Sem.run_bind, pureEval_run hi, Result.andThen_ok]
      have hmax : ¬ (((n + m : Nat) : Int) > IntKind.i64.max ∧ (False ∨ i.bytes = 0)) := by
        intro h
        have : (IntKind.i64.max : Int) = 9223372036854775807 := by decide
        rw [this] at h
        omega
      rw [if_neg hmax]
      simp only [Sem.run_bind, pureEval_run hi, Result.andThen_ok]
      have hcap : ¬ (Builtin.nextslicecap (n + m) k * i.bytes > 2 ^ 48) := by
        have h1 := nextcap_le hk
        have h2 : Builtin.nextslicecap (n + m) k * i.bytes ≤ 2 * (n + m) * i.bytes := Nat.mul_le_mul_right _ h1
        rw [Nat.mul_assoc, hib] at h2
        rw [hib]
        omega
      rw [if_neg hcap]
      simp only [Sem.run_bind] at hdr ⊢
      rw [hdr]
      simp only [pureEval_run hi, Result.andThen_ok]
      unfold askRoom
      have hask : ∀ b : Bool, (Sem.run P (if c' * i.bytes > roomBytes then mark Mark.noRoom else pure ()) w.drew) = .ok () w.drew := by
        intro _
        split
        · rfl
        · rfl
      rw [hask true]
      simp only [Result.andThen_ok]
      rw [hur]
      simp only [Result.andThen_ok]
      rw [hvr]
      simp only [Result.andThen_ok, pureEval_run hz]
      simp only [newRow, newObj, Sem.run_bind, Sem.run, Sem.run_pure, Result.andThen_ok]
      rfl
    simp only [execOp, ho, resolve, hcal, hargs, invoke, builtin, pure_bind]
    rw [Sem.run_bind]
    have e : (#[p, q] : Array Operand).map ρ = #[ρ p, ρ q] := by simp
    rw [e, hrun]
    rfl

/-- An append within the capacity. -/
theorem append_stays {c : Call} {p q : Operand} {sz bytes : Nat} (hc : AppT P c p q sz bytes) {ρ : Operand → Value} (hrq : Rel E (opdA T q) (ρ q)) (g : Good E H w0 w) {n m k b t : Nat} {el el2 : Nat → List AV} (ho : o.op = .call c)
    (hp : Rel E (.rsl false sz n el (.tok t)) (.slice (some ⟨b, 0, none⟩) n k)) (hv : ρ p = .slice (some ⟨b, 0, none⟩) n k) (hGt : E.G t n = some (b, k)) (hH : H[t]? = some (.tail n sz)) (hq : srcA sz (opdA T q) = some (m, el2)) (hm : 0 < m) (hk : n + m ≤ k) :
    ∃ E' v w', (execOp ρ o).run P w = .ok (.value v) w' ∧ Ext H.length (· ∈ [t]) E H w E' (setL H t (.tail (n + m) sz)) w' ∧ Good E' (setL H t (.tail (n + m) sz)) w0 w' ∧
      Rel E' (.rsl false sz (n + m) (fun i => if i < n then el i else el2 (i - n)) (.tok t)) v := by
  obtain ⟨hcal, hargs, ty, t2, elem, i, z, d, hat, hu, hs, hi, hib, hz, hzs, hu2, hd⟩ := hc
  have hd' : ∀ (w : World), (underlying t2).run P w = .ok d w := pureEval_run hu2
  have hsrc1 : srcA sz (.rsl false sz n el (.tok t)) = some (n, el) := by simp [srcA]
  obtain ⟨-, us, hul, hur, hu1, hu2'⟩ := src_run (P := P) g hp hsrc1
  obtain ⟨hvlen0, vs, hvl, hvr, hv1, hv2⟩ := src_run (P := P) g hrq hq
  obtain ⟨b', c', arr, Ty, h1, h2, h3, h4, h5, h6, h7, h8⟩ := g.obj hH
  rw [hGt] at h1
  simp only [Option.some.injEq, Prod.mk.injEq] at h1
  obtain ⟨rfl, rfl⟩ := h1
  have hown : owns E H t b := by unfold owns; rw [hH]; exact ⟨k, hGt⟩
  have htl : t < H.length := (List.getElem?_eq_some_iff.1 hH).1
  have hmul : (n + m) * sz = n * sz + m * sz := Nat.add_mul _ _ _
  have hle : (n + m) * sz ≤ k * sz := Nat.mul_le_mul_right _ hk
  have hstor : ∀ v ∈ vs, stor v := by
    intro v hvm
    obtain ⟨j, hj, rfl⟩ := List.getElem_of_mem hvm
    rw [hvl] at hj
    have hsz : 0 < sz := by
      rcases Nat.eq_zero_or_pos sz with h0 | h0
      · subst h0; simp at hj
      · exact h0
    have hi' : j / sz < m := (Nat.div_lt_iff_lt_mul hsz).2 hj
    have hr' : j % sz < (el2 (j / sz)).length := by rw [(hv1 _ hi').1]; exact Nat.mod_lt _ hsz
    have hrel := hv2 _ hi' (j % sz) _ (List.getElem?_eq_getElem hr')
    have e : j / sz * sz + j % sz = j := by rw [Nat.mul_comm]; exact Nat.div_add_mod j sz
    rw [e] at hrel
    have e2 : vs.getD j undef = vs[j] := by simp [List.getD_eq_getElem?_getD, hvl, hj]
    rw [e2] at hrel
    exact stor_of hrel ((hv1 _ hi').2 _ (List.getElem_mem hr'))
  obtain ⟨w', arr', hrun', g', e', hb', hsz', hget⟩ := storeTail_run (P := P) (n0 := H.length) (W := (· ∈ [t])) hH hGt (fun _ => by simp) vs (n * sz) 0 w arr g h3 hstor (by omega) (by rw [h4, hvl]; omega)
  have hGn : ∀ j, n + m ≤ j → E.G t j = none := fun j hj => h8 j (by omega)
  have hSn : ∀ o, (n + m) * sz ≤ o → E.S b o = none := fun o ho => h7 o (by omega)
  refine ⟨E.grown b arr' ((n + m) * sz) t (n + m) k, .slice (some ⟨b, 0, none⟩) (n + m) k, w', ?_, ?_, ?_, ?_⟩
  · have hrun : (Builtin.append_ c.argTypes o.type #[ρ p, ρ q]).run P w = .ok (.slice (some ⟨b, 0, none⟩) (n + m) k) w' := by
      rw [hat, hv]
      unfold Builtin.append_
      simp only [List.getElem?_toArray, List.getElem?_cons_zero, List.getElem?_cons_succ, Sem.run_bind, pureEval_run hu, pureEval_run hs, Result.andThen_ok, hd', Sem.run_pure]
      have hz0 : (match d with | .int _ => true | _ => false) = false := by
        cases d <;> first | rfl | exact absurd rfl (hd _)
      simp only [Bool.false_eq_true, if_false, Bool.not_false, if_true, Sem.run_bind, hvlen0, Result.andThen_ok]
      rw [if_pos hk]
      simp only [Sem.run_bind, hvr, Result.andThen_ok, add_plain', Nat.zero_add]
      rw [hrun']
      simp only [Result.andThen_ok, Sem.run_pure]
    simp only [execOp, ho, resolve, hcal, hargs, invoke, builtin, pure_bind]
    rw [Sem.run_bind]
    have e : (#[p, q] : Array Operand).map ρ = #[ρ p, ρ q] := by simp
    rw [e, hrun]
    rfl
  · exact e'.trans (retail_ext hown (Nat.le_of_lt htl) (fun _ => by simp) (Nat.le_refl _) (hGn _ (Nat.le_refl _)))
  · exact g'.retail (Nat.le_of_lt htl) (fun l hl => g.sep hl hown) h2 hb' (by rw [hsz', h4]) hk h6 hSn hGn
  · refine grown_rel (us := us) (vs := vs) (hGn _ (Nat.le_refl _)) h6 hk (fun o h => ?_) hul hvl (fun j hj => ?_) hu1 hu2' hv1 hv2
    · cases hs' : E.S b o with
      | none => exact absurd hs' h
      | some u => have := g'.snap hs'; rw [cell_at hb'] at this; exact this.symm
    · rw [hget j, Nat.add_zero]
      by_cases hjn : j < n * sz
      · rw [if_neg (by omega), List.getElem?_append_left (by omega)]
        have hsz0 : 0 < sz := by
          rcases Nat.eq_zero_or_pos sz with h0 | h0
          · subst h0; simp at hjn
          · exact h0
        -- the old cells are what was read
        have hold : ∀ j, j < n * sz → w.cell? ⟨b, j, none⟩ = us[j]? := by
          intro j hj
          cases hp with
          | rodd => exact absurd hj (by simp)
          | rsl _ _ _ _ _ _ _ u hn' ho' hc' hl' h1' hS' hk' =>
            have hcs := cells_of_slice g hl' hS'
            have hlen : j < ((List.range (n * sz)).map fun k => u (k / sz) (k % sz)).length := by simpa using hj
            have h0 := g.snap (hcs j _ (List.getElem?_eq_getElem hlen))
            have hr2 := loadCellsFrom_run (P := P) (w := w) (b := b) (off := 0) (n * sz) 0 #[] ((List.range (n * sz)).map fun k => u (k / sz) (k % sz)) (by simp) (fun j v hj => by
              rw [Nat.zero_add]
              exact g.snap (hcs j v hj))
            simp only [Builtin.firstCells, loadCells, hr2] at hur
            simp only [Result.ok.injEq, and_true] at hur
            have hus : (List.range (n * sz)).map (fun k => u (k / sz) (k % sz)) = us := by simpa using hur
            rw [Nat.zero_add] at h0
            rw [h0, ← hus, List.getElem?_eq_getElem hlen]
        rw [← hold j hjn, cell_at h3]
      · rw [if_pos (by omega), List.getElem?_append_right (by omega), hul]
end
end Go.Proofs.YtiipaliigpkfhaaGreat.Ab
