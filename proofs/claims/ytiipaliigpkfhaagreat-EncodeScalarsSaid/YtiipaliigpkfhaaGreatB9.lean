/- Part 18: maps. -/
import Derived.Test.YtiipaliigpkfhaaGreatB8
import Derived.Laws.BytesString
import Derived.Laws.Cells
set_option linter.unusedVariables false
set_option linter.unusedSimpArgs false
namespace Go.Proofs.YtiipaliigpkfhaaGreat.Ab
open Go Go.RowKit

/-! ### Searching -/
def findNowA (d : TypeDesc) (k : Value) : List (Value × AV) → Nat → Option (Option Nat)
  | [], _ => some none
  | e :: es, i => match Instr.sameNow d k e.1 with
    | some true => some (some i)
    | some false => findNowA d k es (i + 1)
    | none => none

def findAskA (P : Program) (kt : TypeId) (k : Value) : List (Value × AV) → Nat → Option (Option Nat)
  | [], _ => some none
  | e :: es, i => match pureEval P (Op.equal kt k e.1) with
    | some true => some (some i)
    | some false => findAskA P kt k es (i + 1)
    | none => none

def findKeyA (P : Program) (kt : TypeId) (d : TypeDesc) (k : Value) (es : List (Value × AV)) : Option (Option Nat) :=
  match findNowA d k es 0 with
  | some r => some r
  | none => findAskA P kt k es 0

/-- The same keys. -/
def KeysOf (es : List (Value × AV)) (ms : List MapEntry) : Prop := ms.length = es.length ∧ ∀ (j : Nat) (e : Value × AV), es[j]? = some e → ∃ m : MapEntry, ms[j]? = some m ∧ m.key = e.1

theorem KeysOf.tail {e : Value × AV} {es : List (Value × AV)} {m : MapEntry} {ms : List MapEntry} (h : KeysOf (e :: es) (m :: ms)) : m.key = e.1 ∧ KeysOf es ms := by
  obtain ⟨m', h1, h2⟩ := h.2 0 e rfl
  cases h1
  exact ⟨h2, by simpa using h.1, fun j e' hj => by
    obtain ⟨m', h1, h2⟩ := h.2 (j + 1) e' (by simpa using hj)
    exact ⟨m', by simpa using h1, h2⟩⟩

/-- A place, as the model's search hands it back. -/
def hit (ms : List MapEntry) (i0 : Nat) : Option Nat → Option (Nat × Value)
  | none => none
  | some i => (ms[i - i0]?).map fun m => (i, m.val)

theorem findNow_eq (d : TypeDesc) (k : Value) : ∀ (es : List (Value × AV)) (ms : List MapEntry) (i : Nat), KeysOf es ms → Instr.findNow d k ms i = (findNowA d k es i).map (hit ms i) ∧ ∀ r, findNowA d k es i = some (some r) → i ≤ r ∧ r - i < ms.length
  | [], ms, i, h => by
    have : ms = [] := List.length_eq_zero_iff.1 h.1
    subst this
    exact ⟨rfl, fun r hr => by simp [findNowA] at hr⟩
  | e :: es, ms, i, h => by
    match ms, h with
    | m :: ms, h =>
      obtain ⟨hk, ht⟩ := h.tail
      obtain ⟨h1, h2⟩ := findNow_eq d k es ms (i + 1) ht
      unfold Instr.findNow findNowA
      rw [hk]
      cases hs : Instr.sameNow d k e.1 with
      | none => exact ⟨rfl, fun r hr => by cases hr⟩
      | some b =>
        cases b with
        | true => exact ⟨by simp [hit], fun r hr => by cases hr; simp⟩
        | false =>
          dsimp only
          refine ⟨?_, fun r hr => ?_⟩
          · rw [h1]
            cases hf : findNowA d k es (i + 1) with
            | none => rfl
            | some r =>
              cases r with
              | none => rfl
              | some r =>
                obtain ⟨h3, h4⟩ := h2 r hf
                simp only [Option.map_some, hit]
                rw [show r - i = (r - (i + 1)) + 1 by omega, List.getElem?_cons_succ]
          · obtain ⟨h3, h4⟩ := h2 r hr
            simp only [List.length_cons]
            omega

theorem findAsk_run {P : Program} (kt : TypeId) (k : Value) (w : World) : ∀ (es : List (Value × AV)) (ms : List MapEntry) (i : Nat) (r : Option Nat), KeysOf es ms → findAskA P kt k es i = some r → (Instr.findAsking kt k ms i).run P w = .ok (hit ms i r) w ∧ ∀ q, r = some q → i ≤ q ∧ q - i < ms.length
  | [], ms, i, r, h, hf => by
    have : ms = [] := List.length_eq_zero_iff.1 h.1
    subst this
    simp only [findAskA, Option.some.injEq] at hf
    subst hf
    exact ⟨rfl, fun q hq => by cases hq⟩
  | e :: es, ms, i, r, h, hf => by
    match ms, h with
    | m :: ms, h =>
      obtain ⟨hk, ht⟩ := h.tail
      unfold findAskA at hf
      unfold Instr.findAsking
      rw [hk, Sem.run_bind]
      split at hf
      · rename_i hs
        cases hf
        rw [pureEval_run hs]
        exact ⟨by simp [hit], fun q hq => by cases hq; simp⟩
      · rename_i hs
        obtain ⟨h1, h2⟩ := findAsk_run kt k w es ms (i + 1) r ht hf
        rw [pureEval_run hs]
        simp only [Result.andThen_ok, Bool.false_eq_true, if_false]
        rw [h1]
        refine ⟨?_, fun q hq => ?_⟩
        · cases r with
          | none => rfl
          | some q =>
            obtain ⟨h3, h4⟩ := h2 q rfl
            simp only [hit]
            rw [show q - i = (q - (i + 1)) + 1 by omega, List.getElem?_cons_succ]
        · obtain ⟨h3, h4⟩ := h2 q hq
          simp only [List.length_cons]
          omega
      · cases hf

theorem findKey_run {P : Program} {kt : TypeId} {d : TypeDesc} {k : Value} {es : List (Value × AV)} {ms : List MapEntry} {r : Option Nat} (hd : pureEval P (underlying kt) = some d) (hk : KeysOf es ms) (hf : findKeyA P kt d k es = some r) (w : World) :
    (Instr.findKey kt k ms).run P w = .ok (hit ms 0 r) w ∧ ∀ q, r = some q → q < ms.length := by
  unfold Instr.findKey
  rw [Sem.run_bind, pureEval_run hd]
  simp only [Result.andThen_ok]
  obtain ⟨h1, h2⟩ := findNow_eq d k es ms 0 hk
  unfold findKeyA at hf
  split at hf
  · rename_i q hq
    cases hf
    rw [hq] at h1
    rw [h1]
    exact ⟨rfl, fun q' e => by subst e; have := h2 q' hq; omega⟩
  · rename_i hq
    rw [hq] at h1
    rw [h1]
    obtain ⟨h3, h4⟩ := findAsk_run (P := P) kt k w es ms 0 r hk hf
    exact ⟨h3, fun q e => by have := h4 q e; omega⟩

section
variable {P : Program} {o : Oper} {T : List AV} {H : AHeap} {E : Env} {w0 w : World}

theorem MapRel.keys {l : Nat} {es : List (Value × AV)} {ms : Array MapEntry} {ck : Nat} (h : MapRel E l es ms ck) : KeysOf es ms.toList :=
  ⟨by simpa using h.1, fun j e hj => let ⟨m, h1, h2, _⟩ := h.2.1 j e hj; ⟨m, by simpa using h1, h2⟩⟩

theorem owns_setMap {E' : Env} {l : Nat} {es es' : List (Value × AV)} (hl : H[l]? = some (.map es)) (hφ : ∀ k, E'.φ k = E.φ k) (hGo : ∀ k m, k ≠ l → E'.G k m = E.G k m) (z c : Nat) : owns E' (H.set l (.map es')) z c ↔ owns E H z c := by
  have hlt : l < H.length := (List.getElem?_eq_some_iff.1 hl).1
  by_cases hz : l = z
  · subst hz
    unfold owns
    rw [List.getElem?_set_self hlt, hl]
    simp only [hφ]
  · unfold owns
    rw [List.getElem?_set_ne hz]
    cases hq : H[z]? with
    | none => exact Iff.rfl
    | some q =>
      cases q with
      | dead => exact Iff.rfl
      | cells cs => simp only [hφ]
      | tail n sz => simp only [hGo z n (fun e => hz e.symm)]
      | map es => simp only [hφ]
      | iter m => simp only [hφ]
      | mark k => simp only [hφ]

/-- A map's object is written anew; more may be known of its entries' births. -/
theorem Good.setMapG (g : Good E H w0 w) {E' : Env} {l b : Nat} {es es' : List (Value × AV)} {ms' : Array MapEntry} {ck' : Nat} (hl : H[l]? = some (.map es)) (hb : E.φ l = some b) (he : E.le E') (hφ : ∀ k, E'.φ k = E.φ k) (hS : ∀ c o, E'.S c o = E.S c o) (hGo : ∀ k m, k ≠ l → E'.G k m = E.G k m) (hr : MapRel E' l es' ms' ck') :
    Good E' (H.set l (.map es')) w0 { w with heap := w.heap.setIfInBounds b (.map ms' ck') } ∧ ∃ ms ck, w.heap[b]? = some (.map ms ck) := by
  have hown : owns E H l b := by unfold owns; rw [hl]; exact hb
  obtain ⟨h1, ms, ck, h3, h4⟩ := g.obj hl b hb
  have hlt : l < H.length := (List.getElem?_eq_some_iff.1 hl).1
  have hblt : b < w.heap.size := (Array.getElem?_eq_some_iff.1 h3).1
  have hoth : ∀ c, c ≠ b → ({ w with heap := w.heap.setIfInBounds b (.map ms' ck') } : World).heap[c]? = w.heap[c]? := fun c hc => Array.getElem?_setIfInBounds_ne (Ne.symm hc)
  have owns_set := owns_setMap (E := E) (E' := E') (H := H) (es' := es') hl hφ hGo
  refine ⟨⟨g.below.trans ⟨rfl, rfl, rfl, by simp, fun k hk => hoth k (by omega)⟩, ?_, ?_, ?_, ?_, ?_⟩, ms, ck, h3⟩
  · intro c o u h
    rw [hS] at h
    have hne : c ≠ b := fun e => by
      subst e
      have := g.snap h
      simp [World.cell?, h3] at this
    rw [cell_same (hoth c hne)]
    exact g.snap h
  · intro z o h
    by_cases hz : l = z
    · subst hz
      rw [List.getElem?_set_self hlt] at h
      simp only [Option.some.injEq] at h
      subst h
      intro c hc
      rw [hφ, hb] at hc
      simp only [Option.some.injEq] at hc
      subst hc
      exact ⟨h1, ms', ck', by simp [hblt], hr⟩
    · rw [List.getElem?_set_ne hz] at h
      exact (g.obj h).step h he (fun c h => (hφ z).symm.trans h) (fun m => hGo z m (fun e => hz e.symm)) (fun c o _ _ h => (hS c o).trans h) (fun c hc => hoth c (fun e => hz (by subst e; exact g.sep hown hc)))
  · intro z z' c h h'
    exact g.sep ((owns_set _ _).1 h) ((owns_set _ _).1 h')
  · intro z hz
    have hz' : H.length ≤ z := by simpa using hz
    have := g.fresh hz'
    exact ⟨(hφ z).trans this.1, fun m => (hGo z m (by omega)).trans (this.2 m)⟩
  · intro z c h
    have := g.φlt ((hφ z).symm.trans h)
    simpa using this

theorem Good.setMap (g : Good E H w0 w) {l b : Nat} {es es' : List (Value × AV)} {ms' : Array MapEntry} {ck' : Nat} (hl : H[l]? = some (.map es)) (hb : E.φ l = some b) (hr : MapRel E l es' ms' ck') :
    Good E (H.set l (.map es')) w0 { w with heap := w.heap.setIfInBounds b (.map ms' ck') } ∧ ∃ ms ck, w.heap[b]? = some (.map ms ck) :=
  g.setMapG hl hb (.refl E) (fun _ => rfl) (fun _ _ => rfl) (fun _ _ _ => rfl) hr

theorem setMapG_ext {E' : Env} {n0 : Nat} {W : Nat → Prop} (g : Good E H w0 w) {l b : Nat} {es es' : List (Value × AV)} {ob : Obj} (hW : l < n0 → W l) (hl : H[l]? = some (.map es)) (hb : E.φ l = some b) (he : E.le E') (hφ : ∀ k, E'.φ k = E.φ k) (hS : ∀ c o, E'.S c o = E.S c o) (hGo : ∀ k m, k ≠ l → E'.G k m = E.G k m) :
    Ext n0 W E H w E' (H.set l (.map es')) { w with heap := w.heap.setIfInBounds b ob } := by
  have hown : owns E H l b := by unfold owns; rw [hl]; exact hb
  refine ⟨he, by simp, by simp, fun {z} hz hw => ?_, fun {z c} hz hw ho => ?_, fun {k} _ => hφ k, fun {c} hc h => ⟨Array.getElem?_setIfInBounds_ne (fun e => h _ (e ▸ hown)), fun z ho => h z ((owns_setMap hl hφ hGo z c).1 ho), fun o => hS c o⟩⟩
  · have : l ≠ z := fun e => hw (e ▸ hW (e ▸ hz))
    exact List.getElem?_set_ne this
  · refine Array.getElem?_setIfInBounds_ne (fun e => ?_)
    subst e
    have := g.sep ho hown
    subst this
    exact hw (hW hz)

theorem setMap_ext {n0 : Nat} {W : Nat → Prop} (g : Good E H w0 w) {l b : Nat} {es es' : List (Value × AV)} {ob : Obj} (hW : l < n0 → W l) (hl : H[l]? = some (.map es)) (hb : E.φ l = some b) :
    Ext n0 W E H w E (H.set l (.map es')) { w with heap := w.heap.setIfInBounds b ob } :=
  setMapG_ext g hW hl hb (.refl E) (fun _ => rfl) (fun _ _ => rfl) (fun _ _ _ => rfl)

theorem Good.newMap (g : Good E H w0 w) : Good (E.withφ H.length w.heap.size) (H ++ [.map []]) w0 (w.alloc (.map #[] 0)) := by
  refine (g.push (.map #[] 0)).adopt (by rw [alloc_size]; omega) (fun l ho => absurd (g.ownlt ho) (Nat.lt_irrefl _)) (fun _ _ => by simp) ?_
  intro b hb
  rw [withφ_self] at hb
  simp only [Option.some.injEq] at hb
  subst hb
  exact ⟨g.below.size, #[], 0, heap_alloc_new w _, rfl, fun j e hj => by simp at hj, fun i m hm => by simp at hm, fun i j m m' hm => by simp at hm, fun i x hx => by
    have hx' : E.G H.length i = some x := hx
    rw [(g.fresh (Nat.le_refl _)).2 i] at hx'; cases hx'⟩

theorem opA_makeMap {t : TypeId} (ho : o.op = .makeMap t none) : OpA P o T H (.mapr H.length) (H ++ [.map []]) [] := by
  refine opA_run fun E w0 w ρ hg ht => ⟨E.withφ H.length w.heap.size, .map (some w.heap.size), w.alloc (.map #[] 0), ?_, new_ext _ _ (Nat.le_refl _) hg _ _, hg.newMap, .mapr _ _ (withφ_self _ _ _)⟩
  simp only [execOp, ho, Option.map_none, Instr.makeMap, newObj, Sem.run_bind, Sem.run, Sem.run_pure, Result.andThen_ok, pure_bind]
  rfl

/-- A key that is known. -/
def keyV : AV → Option Value
  | .sc v => some v
  | .agg cs => (cs.foldr (fun x r => match scal x, r with | some v, some vs => some (v :: vs) | _, _ => none) (some [])).map fun vs => .agg vs.toArray
  | _ => none

theorem keyV_eq {x : AV} {v k : Value} (hr : Rel E x v) (h : keyV x = some k) : v = k := by
  cases hr with
  | sc v hp => simpa [keyV] using h
  | agg cs us hl hk =>
    simp only [keyV, Option.map_eq_some_iff] at h
    obtain ⟨vs, hvs, rfl⟩ := h
    have key : ∀ (cs : List AV) (ws vs : List Value), ws.length = cs.length → (∀ (j : Nat) (x : AV), cs[j]? = some x → Rel E x (ws.getD j undef)) → cs.foldr (fun x r => match scal x, r with | some v, some vs => some (v :: vs) | _, _ => none) (some []) = some vs → ws = vs := by
      intro cs
      induction cs with
      | nil =>
        intro ws vs hl _ h
        simp at h
        rw [h]
        exact List.length_eq_zero_iff.1 hl
      | cons c r ih =>
        intro ws vs hl hk h
        match ws, hl with
        | a :: ws, hl =>
          rw [List.foldr_cons] at h
          split at h
          · rename_i v vs' hv hvs'
            cases h
            have h0 := hk 0 c rfl
            simp only [List.getD_cons_zero] at h0
            rw [rel_scal hv h0, ih ws vs' (by simpa using hl) (fun j x hj => by simpa using hk (j + 1) x (by simpa using hj)) hvs']
          · cases h
    have := key cs us.toList vs (by simpa using hl) (fun j x hj => by simpa using hk j x hj) hvs
    congr 1
    apply Array.ext'
    simpa using this
  | _ => simp [keyV] at h

/-- A map's search at a known key. -/
structure MapT (P : Program) (t kt et : TypeId) (d : TypeDesc) (z : Value) (k : Value) : Prop where
  ty : pureEval P (underlying t) = some (.map kt et)
  kd : pureEval P (underlying kt) = some d
  zero : pureEval P (zeroValue et) = some z
  chk : ∀ b, pureEval P (Instr.checkKey b 10000 kt k) = some ()

def gotA (es : List (Value × AV)) (z : Value) : Option Nat → Option AV
  | some i => (es[i]?).map (·.2)
  | none => some (constA z)

theorem opA_lookup {t kt et : TypeId} {d : TypeDesc} {z : Value} {p q : Operand} {ok : Bool} {l : Nat} {es : List (Value × AV)} {k : Value} {r : Option Nat} {x : AV} (ho : o.op = .lookup t p q ok) (hT : MapT P t kt et d z k) (hp : opdA T p = .mapr l) (hl : H[l]? = some (.map es)) (hk : keyV (opdA T q) = some k)
    (hf : findKeyA P kt d k es = some r) (hx : gotA es z r = some x) : OpS P o T H (if ok then .tup [x, .sc (.bool r.isSome)] else x) := by
  refine opS_intro fun E w0 w ρ hg ht => ?_
  have hr := ht p (by simp [ho, Op.operands])
  rw [hp] at hr
  have hq := keyV_eq (ht q (by simp [ho, Op.operands])) hk
  generalize hv : ρ p = v at hr
  cases hr with
  | mapr l b hb =>
    obtain ⟨h1, ms, ck, h3, h4⟩ := hg.obj hl b hb
    obtain ⟨hrun, hlt⟩ := findKey_run hT.kd h4.keys hf w
    have hval : ∃ u, ((match hit ms.toList 0 r with | some (_, v) => (.ok (v, true) w : Result (Value × Bool)) | none => .ok (z, false) w) = .ok (u, r.isSome) w) ∧ Rel E x u := by
      cases r with
      | none =>
        simp only [gotA, Option.some.injEq] at hx
        subst hx
        exact ⟨z, rfl, constA_rel E _ z (Nat.lt_succ_self _)⟩
      | some i =>
        simp only [gotA, Option.map_eq_some_iff] at hx
        obtain ⟨e, he, rfl⟩ := hx
        obtain ⟨m, hm, _, hrel⟩ := h4.2.1 i e he
        have hm' : ms.toList[i]? = some m := by simpa using hm
        exact ⟨m.val, by simp [hit, hm'], hrel⟩
    obtain ⟨u, hu, hrel⟩ := hval
    refine ⟨if ok then .tuple #[u, .bool r.isSome] else u, ?_, ?_⟩
    · simp only [execOp, ho, Instr.lookup, hv, hq, Sem.run_bind, pureEval_run hT.ty, Result.andThen_ok]
      have hget : (getObj b).run P w = .ok (.map ms ck) w := by simp [getObj, Sem.run, h3]
      cases hh : hit ms.toList 0 r with
      | none =>
        rw [hh] at hu hrun
        simp only [Result.ok.injEq, Prod.mk.injEq, and_true] at hu
        obtain ⟨rfl, h⟩ := hu
        simp only [hget, Result.andThen_ok, Sem.run_bind, Sem.run_pure, pureEval_run (hT.chk ms.isEmpty), hrun, pureEval_run hT.zero, ← h]
      | some iv =>
        obtain ⟨i, v⟩ := iv
        rw [hh] at hu hrun
        simp only [Result.ok.injEq, Prod.mk.injEq, and_true] at hu
        obtain ⟨rfl, h⟩ := hu
        simp only [hget, Result.andThen_ok, Sem.run_bind, Sem.run_pure, pureEval_run (hT.chk ms.isEmpty), hrun, ← h]
    · cases ok with
      | false => exact hrel
      | true =>
        refine .tup _ _ rfl (fun j y hj => ?_)
        match j, hj with
        | 0, hj => simp at hj; subst hj; exact hrel
        | 1, hj => simp at hj; subst hj; exact .sc _ rfl

theorem push_born {l : Nat} {ms : Array MapEntry} (h : BornG E l ms) (m : MapEntry) : BornG E l (ms.push m) := fun i x hx => by
  obtain ⟨h1, m', h2, h3⟩ := h i x hx
  have hi := (Array.getElem?_eq_some_iff.1 h2).1
  exact ⟨h1, m', by rw [Array.getElem?_push, if_neg (by omega)]; exact h2, h3⟩
theorem modify_born {l : Nat} {ms : Array MapEntry} (h : BornG E l ms) (k : Nat) (f : MapEntry → MapEntry) (hf : ∀ m, (f m).born = m.born) : BornG E l (ms.modify k f) := fun i x hx => by
  obtain ⟨h1, m', h2, h3⟩ := h i x hx
  rw [Array.getElem?_modify]
  by_cases hk : k = i
  · rw [if_pos hk, h2]; exact ⟨h1, f m', rfl, (hf m').trans h3⟩
  · rw [if_neg hk]; exact ⟨h1, m', h2, h3⟩

def upd (es : List (Value × AV)) (k : Value) (x : AV) : Option Nat → List (Value × AV)
  | some i => es.set i (k, x)
  | none => es ++ [(k, x)]

theorem opA_mapUpdate {t kt et : TypeId} {d : TypeDesc} {z : Value} {p q s : Operand} {l : Nat} {es : List (Value × AV)} {k : Value} {r : Option Nat} (ho : o.op = .mapUpdate t p q s) (hT : MapT P t kt et d z k) (hp : opdA T p = .mapr l) (hl : H[l]? = some (.map es))
    (hk : keyV (opdA T q) = some k) (hf : findKeyA P kt d k es = some r) (hb : ∀ i, r = some i → ∃ e, es[i]? = some e ∧ Instr.sameBits 10000 e.1 k = true) : OpA P o T H .any (H.set l (.map (upd es k (opdA T s) r))) [l] := by
  refine opA_skip fun E w0 w ρ hg ht => ?_
  have hr := ht p (by simp [ho, Op.operands])
  rw [hp] at hr
  have hq := keyV_eq (ht q (by simp [ho, Op.operands])) hk
  have hs := ht s (by simp [ho, Op.operands])
  generalize hv : ρ p = v at hr
  cases hr with
  | mapr l b hbl =>
    obtain ⟨h1, ms, ck, h3, h4⟩ := hg.obj hl b hbl
    obtain ⟨hrun, hlt⟩ := findKey_run hT.kd h4.keys hf w
    have hget : (getObj b).run P w = .ok (.map ms ck) w := by simp [getObj, Sem.run, h3]
    have hset : ∀ o', (setObj b o').run P w = .ok () { w with heap := w.heap.setIfInBounds b o' } := fun o' => by simp [setObj, Sem.run, h3]
    cases r with
    | none =>
      have hnew : MapRel E l (es ++ [(k, opdA T s)]) (ms.push { key := k, val := ρ s, born := ck }) (ck + 1) := by
        refine ⟨by simp [h4.1], fun j e hj => ?_, fun i m hm => ?_, fun i j m m' hm hm' hbo => ?_, push_born h4.2.2.2.2 _⟩
        · by_cases hjl : j < es.length
          · rw [List.getElem?_append_left hjl] at hj
            obtain ⟨m, hm, hk1, hk2⟩ := h4.2.1 j e hj
            have hjm : j < ms.size := by rw [h4.1]; exact hjl
            exact ⟨m, by rw [Array.getElem?_push, if_neg (by omega)]; exact hm, hk1, hk2⟩
          · have hjl' : j = es.length := by
              have := (List.getElem?_eq_some_iff.1 hj).1
              simp at this; omega
            subst hjl'
            simp at hj
            subst hj
            exact ⟨({ key := k, val := ρ s, born := ck } : MapEntry), by rw [← h4.1]; simp, rfl, hs⟩
        · rw [Array.getElem?_push] at hm
          split at hm
          · cases hm; simp
          · have := h4.2.2.1 i m hm; omega
        · rw [Array.getElem?_push] at hm hm'
          split at hm <;> split at hm'
          · omega
          · cases hm
            have := h4.2.2.1 j m' hm'
            simp only at hbo
            omega
          · cases hm'
            have := h4.2.2.1 i m hm
            simp only at hbo
            omega
          · exact h4.2.2.2.1 i j m m' hm hm' hbo
      obtain ⟨g', _⟩ := hg.setMap hl hbl hnew
      refine ⟨E, _, ?_, setMap_ext hg (fun _ => by simp) hl hbl, g'⟩
      simp only [execOp, ho, Instr.mapUpdate, hv, hq, Sem.run_bind, pureEval_run hT.ty, Result.andThen_ok, hget, pureEval_run (hT.chk false), hrun, hit, hset, Sem.run_pure]
    | some i =>
      obtain ⟨e, he, hbits⟩ := hb i rfl
      obtain ⟨m, hm, hmk, _⟩ := h4.2.1 i e he
      have hil : i < ms.size := (Array.getElem?_eq_some_iff.1 hm).1
      have hnew : MapRel E l (es.set i (k, opdA T s)) (ms.modify i fun e => { e with key := k, val := ρ s }) ck := by
        refine ⟨by simp [h4.1], fun j e' hj => ?_, fun j m' hm' => ?_, fun j j' m1 m2 hm1 hm2 hbo => ?_, modify_born h4.2.2.2.2 i _ (fun _ => rfl)⟩
        · by_cases hij : i = j
          · subst hij
            rw [List.getElem?_set_self (by rw [← h4.1]; exact hil)] at hj
            cases hj
            exact ⟨{ m with key := k, val := ρ s }, by rw [Array.getElem?_modify, if_pos rfl, hm]; rfl, rfl, hs⟩
          · rw [List.getElem?_set_ne hij] at hj
            obtain ⟨m', hm', hk1, hk2⟩ := h4.2.1 j e' hj
            exact ⟨m', by rw [Array.getElem?_modify, if_neg hij]; exact hm', hk1, hk2⟩
        · rw [Array.getElem?_modify] at hm'
          split at hm'
          · rename_i hij
            subst hij
            rw [hm] at hm'
            cases hm'
            exact h4.2.2.1 i m hm
          · exact h4.2.2.1 j m' hm'
        · have born : ∀ (j : Nat) (m1 : MapEntry), (ms.modify i fun e => { e with key := k, val := ρ s })[j]? = some m1 → ∃ m0, ms[j]? = some m0 ∧ m0.born = m1.born := by
            intro j m1 h
            rw [Array.getElem?_modify] at h
            split at h
            · rename_i hij
              subst hij
              rw [hm] at h
              cases h
              exact ⟨m, hm, rfl⟩
            · exact ⟨m1, h, rfl⟩
          obtain ⟨n1, hn1, hb1⟩ := born j m1 hm1
          obtain ⟨n2, hn2, hb2⟩ := born j' m2 hm2
          exact h4.2.2.2.1 j j' n1 n2 hn1 hn2 (by rw [hb1, hb2, hbo])
      obtain ⟨g', _⟩ := hg.setMap hl hbl hnew
      refine ⟨E, _, ?_, setMap_ext hg (fun _ => by simp) hl hbl, g'⟩
      have hml : ms.toList[i]? = some m := by simpa using hm
      have hstay : (Instr.keyThatStays m.key k).run P w = .ok k w := by
        unfold Instr.keyThatStays
        rw [hmk, hbits]
        rfl
      simp only [execOp, ho, Instr.mapUpdate, hv, hq, Sem.run_bind, pureEval_run hT.ty, Result.andThen_ok, hget, pureEval_run (hT.chk false), hrun, hit, Nat.sub_zero, hml, Option.map_some, hm, Option.getD_some, hstay, hset, Sem.run_pure]

/-- One entry's birth is told. -/
def Env.withB (E : Env) (l i n : Nat) : Env := { E with G := fun x m => if x = l ∧ m = i then some (n, 0) else E.G x m }
theorem withB_le {l i n : Nat} (h : ∀ x, E.G l i = some x → x = (n, 0)) : E.le (E.withB l i n) :=
  ⟨fun h => h, fun h => h, fun {t m x} hx => by
    by_cases hc : t = l ∧ m = i
    · obtain ⟨rfl, rfl⟩ := hc
      simp [Env.withB, h x hx]
    · simp [Env.withB, hc, hx]⟩
theorem withB_self (E : Env) (l i n : Nat) : (E.withB l i n).G l i = some (n, 0) := by simp [Env.withB]
theorem withB_born {l i n : Nat} {ms : Array MapEntry} (h : BornG E l ms) {m : MapEntry} (hm : ms[i]? = some m) (hn : m.born = n) : BornG (E.withB l i n) l ms := fun j x hx => by
  by_cases hj : j = i
  · subst hj
    rw [withB_self] at hx
    cases hx
    exact ⟨rfl, m, hm, hn⟩
  · exact h j x (by simpa [Env.withB, hj] using hx)

theorem opA_mapEntry {t kt et : TypeId} {d : TypeDesc} {z : Value} {p q : Operand} {l : Nat} {es : List (Value × AV)} {k : Value} {r : Option Nat} {i : Nat} {x : AV} {es' : List (Value × AV)} (ho : o.op = .mapEntry t p q) (hT : MapT P t kt et d z k) (hp : opdA T p = .mapr l) (hl : H[l]? = some (.map es))
    (hk : keyV (opdA T q) = some k) (hf : findKeyA P kt d k es = some r)
    (hb : (r = none ∧ i = es.length ∧ x = constA z ∧ es' = es ++ [(k, constA z)]) ∨ (∃ e, r = some i ∧ es[i]? = some e ∧ Instr.sameBits 10000 e.1 k = true ∧ x = e.2 ∧ es' = es.set i (k, e.2))) :
    OpA P o T H (.tup [x, .stamp l i]) (H.set l (.map es')) [l] := by
  refine opA_run fun E w0 w ρ hg ht => ?_
  have hr := ht p (by simp [ho, Op.operands])
  rw [hp] at hr
  have hq := keyV_eq (ht q (by simp [ho, Op.operands])) hk
  generalize hv : ρ p = v at hr
  cases hr with
  | mapr l b hbl =>
    obtain ⟨h1, ms, ck, h3, h4⟩ := hg.obj hl b hbl
    obtain ⟨hrun, hlt⟩ := findKey_run hT.kd h4.keys hf w
    have hget : (getObj b).run P w = .ok (.map ms ck) w := by simp [getObj, Sem.run, h3]
    have hset : ∀ o', (setObj b o').run P w = .ok () { w with heap := w.heap.setIfInBounds b o' } := fun o' => by simp [setObj, Sem.run, h3]
    have pair : ∀ {E2 : Env} {u : Value} {n : Nat}, Rel E2 x u → E2.G l i = some (n, 0) → Rel E2 (.tup [x, .stamp l i]) (.tuple #[u, goInt n]) := by
      intro E2 u n hu hG
      refine .tup _ _ rfl (fun j y hj => ?_)
      match j, hj with
      | 0, hj => simp at hj; subst hj; exact hu
      | 1, hj => simp at hj; subst hj; exact .stamp l i n hG
    rcases hb with ⟨rfl, rfl, rfl, rfl⟩ | ⟨e, rfl, he, hbits, rfl, rfl⟩
    · have hnone : ∀ y, E.G l es.length = some y → y = (ck, 0) := fun y hy => by
        obtain ⟨_, m, hm, _⟩ := h4.2.2.2.2 _ y hy
        have := (Array.getElem?_eq_some_iff.1 hm).1
        rw [h4.1] at this
        omega
      have hle := withB_le (E := E) (l := l) (i := es.length) (n := ck) hnone
      have hnew : MapRel (E.withB l es.length ck) l (es ++ [(k, constA z)]) (ms.push { key := k, val := z, born := ck }) (ck + 1) := by
        refine ⟨by simp [h4.1], fun j e hj => ?_, fun i m hm => ?_, fun i j m m' hm hm' hbo => ?_, withB_born (m := { key := k, val := z, born := ck }) (push_born h4.2.2.2.2 _) (by rw [← h4.1]; simp) rfl⟩
        · by_cases hjl : j < es.length
          · rw [List.getElem?_append_left hjl] at hj
            obtain ⟨m, hm, hk1, hk2⟩ := h4.2.1 j e hj
            have hjm : j < ms.size := by rw [h4.1]; exact hjl
            exact ⟨m, by rw [Array.getElem?_push, if_neg (by omega)]; exact hm, hk1, hk2.mono hle⟩
          · have hjl' : j = es.length := by
              have := (List.getElem?_eq_some_iff.1 hj).1
              simp at this; omega
            subst hjl'
            simp at hj
            subst hj
            exact ⟨({ key := k, val := z, born := ck } : MapEntry), by rw [← h4.1]; simp, rfl, constA_rel _ _ z (Nat.lt_succ_self _)⟩
        · rw [Array.getElem?_push] at hm
          split at hm
          · cases hm; simp
          · have := h4.2.2.1 i m hm; omega
        · rw [Array.getElem?_push] at hm hm'
          split at hm <;> split at hm'
          · omega
          · cases hm
            have := h4.2.2.1 j m' hm'
            simp only at hbo
            omega
          · cases hm'
            have := h4.2.2.1 i m hm
            simp only at hbo
            omega
          · exact h4.2.2.2.1 i j m m' hm hm' hbo
      have hGo : ∀ k m, k ≠ l → (E.withB l es.length ck).G k m = E.G k m := fun k m hne => by simp [Env.withB, hne]
      obtain ⟨g', _⟩ := hg.setMapG hl hbl hle (fun _ => rfl) (fun _ _ => rfl) hGo hnew
      refine ⟨E.withB l es.length ck, .tuple #[z, goInt ck], _, ?_, setMapG_ext hg (fun _ => by simp) hl hbl hle (fun _ => rfl) (fun _ _ => rfl) hGo, g', pair (constA_rel _ _ z (Nat.lt_succ_self _)) (withB_self _ _ _ _)⟩
      simp only [execOp, ho, Instr.mapEntry, hv, hq, Sem.run_bind, pureEval_run hT.ty, Result.andThen_ok, hget, pureEval_run (hT.chk false), hrun, hit, pureEval_run hT.zero, hset, Sem.run_pure]
    · obtain ⟨m, hm, hmk, hrel⟩ := h4.2.1 i e he
      have hil : i < ms.size := (Array.getElem?_eq_some_iff.1 hm).1
      have hone : ∀ y, E.G l i = some y → y = (m.born, 0) := fun y hy => by
        obtain ⟨h0, m', hm', hb'⟩ := h4.2.2.2.2 i y hy
        rw [hm] at hm'
        cases hm'
        obtain ⟨y1, y2⟩ := y
        simp only at h0 hb'
        rw [h0, hb']
      have hle := withB_le (E := E) (l := l) (i := i) (n := m.born) hone
      have born : ∀ (j : Nat) (m1 : MapEntry), (ms.modify i fun e => { e with key := k })[j]? = some m1 → ∃ m0, ms[j]? = some m0 ∧ m0.born = m1.born := by
        intro j m1 h
        rw [Array.getElem?_modify] at h
        split at h
        · rename_i hij
          subst hij
          rw [hm] at h
          cases h
          exact ⟨m, hm, rfl⟩
        · exact ⟨m1, h, rfl⟩
      have hnew : MapRel (E.withB l i m.born) l (es.set i (k, e.2)) (ms.modify i fun e => { e with key := k }) ck := by
        refine ⟨by simp [h4.1], fun j e' hj => ?_, fun j m' hm' => ?_, fun j j' m1 m2 hm1 hm2 hbo => ?_, withB_born (m := { m with key := k }) (modify_born h4.2.2.2.2 i _ (fun _ => rfl)) (by rw [Array.getElem?_modify, if_pos rfl, hm]; rfl) rfl⟩
        · by_cases hij : i = j
          · subst hij
            rw [List.getElem?_set_self (by rw [← h4.1]; exact hil)] at hj
            cases hj
            exact ⟨{ m with key := k }, by rw [Array.getElem?_modify, if_pos rfl, hm]; rfl, rfl, hrel.mono hle⟩
          · rw [List.getElem?_set_ne hij] at hj
            obtain ⟨m', hm', hk1, hk2⟩ := h4.2.1 j e' hj
            exact ⟨m', by rw [Array.getElem?_modify, if_neg hij]; exact hm', hk1, hk2.mono hle⟩
        · obtain ⟨n1, hn1, hb1⟩ := born j m' hm'
          rw [← hb1]
          exact h4.2.2.1 j n1 hn1
        · obtain ⟨n1, hn1, hb1⟩ := born j m1 hm1
          obtain ⟨n2, hn2, hb2⟩ := born j' m2 hm2
          exact h4.2.2.2.1 j j' n1 n2 hn1 hn2 (by rw [hb1, hb2, hbo])
      have hGo : ∀ k m', k ≠ l → (E.withB l i m.born).G k m' = E.G k m' := fun k m' hne => by simp [Env.withB, hne]
      obtain ⟨g', _⟩ := hg.setMapG hl hbl hle (fun _ => rfl) (fun _ _ => rfl) hGo hnew
      refine ⟨E.withB l i m.born, .tuple #[m.val, goInt m.born], _, ?_, setMapG_ext hg (fun _ => by simp) hl hbl hle (fun _ => rfl) (fun _ _ => rfl) hGo, g', pair (hrel.mono hle) (withB_self _ _ _ _)⟩
      have hml : ms.toList[i]? = some m := by simpa using hm
      have hstay : (Instr.keyThatStays m.key k).run P w = .ok k w := by
        unfold Instr.keyThatStays
        rw [hmk, hbits]
        rfl
      simp only [execOp, ho, Instr.mapEntry, hv, hq, Sem.run_bind, pureEval_run hT.ty, Result.andThen_ok, hget, pureEval_run (hT.chk false), hrun, hit, Nat.sub_zero, hml, Option.map_some, hm, Option.getD_some, hstay, hset, Sem.run_pure]

theorem opA_entryStore {t : TypeId} {p s q : Operand} {l i : Nat} {es : List (Value × AV)} {e : Value × AV} (ho : o.op = .entryStore t p s q) (hp : opdA T p = .mapr l) (hs : opdA T s = .stamp l i) (hl : H[l]? = some (.map es)) (he : es[i]? = some e) :
    OpA P o T H .any (H.set l (.map (es.set i (e.1, opdA T q)))) [l] := by
  refine opA_skip fun E w0 w ρ hg ht => ?_
  have hr := ht p (by simp [ho, Op.operands])
  rw [hp] at hr
  have hrs := ht s (by simp [ho, Op.operands])
  rw [hs] at hrs
  have hq := ht q (by simp [ho, Op.operands])
  generalize hv : ρ p = v at hr
  generalize hu : ρ s = u at hrs
  cases hr with
  | mapr l b hbl =>
    cases hrs with
    | stamp l i n hG =>
      obtain ⟨h1, ms, ck, h3, h4⟩ := hg.obj hl b hbl
      obtain ⟨_, m, hm, hmn⟩ := h4.2.2.2.2 i _ hG
      simp only at hmn
      have hil : i < ms.size := (Array.getElem?_eq_some_iff.1 hm).1
      have hget : (getObj b).run P w = .ok (.map ms ck) w := by simp [getObj, Sem.run, h3]
      have hset : ∀ o', (setObj b o').run P w = .ok () { w with heap := w.heap.setIfInBounds b o' } := fun o' => by simp [setObj, Sem.run, h3]
      have hmi : ms[i] = m := (Array.getElem?_eq_some_iff.1 hm).2
      have hfind : ms.findIdx? (fun e => (e.born : Int) == (n : Int)) = some i := by
        rw [Array.findIdx?_eq_some_iff_getElem]
        refine ⟨hil, by rw [hmi, hmn]; simp, fun j hj => ?_⟩
        have hjl : j < ms.size := by omega
        intro hc
        simp only [beq_iff_eq] at hc
        have := h4.2.2.2.1 j i ms[j] m (by simp [hjl]) hm (by omega)
        omega
      have born : ∀ (j : Nat) (m1 : MapEntry), (ms.modify i fun e => { e with val := ρ q })[j]? = some m1 → ∃ m0, ms[j]? = some m0 ∧ m0.born = m1.born := by
        intro j m1 h
        rw [Array.getElem?_modify] at h
        split at h
        · rename_i hij
          subst hij
          rw [hm] at h
          cases h
          exact ⟨m, hm, rfl⟩
        · exact ⟨m1, h, rfl⟩
      obtain ⟨m0, hm0, hk0, _⟩ := h4.2.1 i e he
      have hnew : MapRel E l (es.set i (e.1, opdA T q)) (ms.modify i fun e => { e with val := ρ q }) ck := by
        refine ⟨by simp [h4.1], fun j e' hj => ?_, fun j m' hm' => ?_, fun j j' m1 m2 hm1 hm2 hbo => ?_, modify_born h4.2.2.2.2 i _ (fun _ => rfl)⟩
        · by_cases hij : i = j
          · subst hij
            rw [List.getElem?_set_self (by rw [← h4.1]; exact hil)] at hj
            cases hj
            exact ⟨{ m0 with val := ρ q }, by rw [Array.getElem?_modify, if_pos rfl, hm0]; rfl, hk0, hq⟩
          · rw [List.getElem?_set_ne hij] at hj
            obtain ⟨m', hm', hk1, hk2⟩ := h4.2.1 j e' hj
            exact ⟨m', by rw [Array.getElem?_modify, if_neg hij]; exact hm', hk1, hk2⟩
        · obtain ⟨n1, hn1, hb1⟩ := born j m' hm'
          rw [← hb1]
          exact h4.2.2.1 j n1 hn1
        · obtain ⟨n1, hn1, hb1⟩ := born j m1 hm1
          obtain ⟨n2, hn2, hb2⟩ := born j' m2 hm2
          exact h4.2.2.2.1 j j' n1 n2 hn1 hn2 (by rw [hb1, hb2, hbo])
      obtain ⟨g', _⟩ := hg.setMap hl hbl hnew
      refine ⟨E, _, ?_, setMap_ext hg (fun _ => by simp) hl hbl, g'⟩
      simp only [execOp, ho, Instr.entryStore, hv, hu, Sem.run_bind, Result.andThen_ok, hget, asInt, asIntOf, Sem.run_pure, hfind, hset]

theorem opS_lenMap {t kt et : TypeId} {c : Call} {p : Operand} {l : Nat} {es : List (Value × AV)} (ho : o.op = .call c) (hc : c.callee = .builtin .len) (ha : c.args = #[p]) (htt : c.argTypes[0]? = some t) (hu : pureEval P (underlying t) = some (.map kt et))
    (hp : opdA T p = .mapr l) (hl : H[l]? = some (.map es)) : OpS P o T H (.sc (.int .i64 es.length)) := by
  refine opS_intro fun E w0 w ρ hg ht => ?_
  have hr := ht p (by simp [ho, Op.operands, Call.operands, ha])
  rw [hp] at hr
  generalize hv : ρ p = v at hr
  cases hr with
  | mapr l b hb =>
    obtain ⟨h1, ms, ck, h3, h4⟩ := hg.obj hl b hb
    refine ⟨.int .i64 es.length, ?_, .sc _ rfl⟩
    simp [execOp, ho, resolve, hc, invoke, builtin, Builtin.len_, htt, ha, hv, pureEval_run hu, goInt, getObj, Sem.run, h3, h4.1]

/-! ### Ranging over an empty map -/
theorem opA_range {t kt et : TypeId} {p : Operand} {l : Nat} {es : List (Value × AV)} (ho : o.op = .range t p) (hu : pureEval P (underlying t) = some (.map kt et)) (hp : opdA T p = .mapr l) (hl : H[l]? = some (.map [])) : OpA P o T H (.ptr H.length 0) (H ++ [.iter l]) [] := by
  refine opA_run fun E w0 w ρ hg ht => ?_
  have hr := ht p (by simp [ho, Op.operands])
  rw [hp] at hr
  generalize hv : ρ p = v at hr
  cases hr with
  | mapr l b hb =>
    obtain ⟨h1, ms, ck, h3, h4⟩ := hg.obj hl b hb
    have hlt : l < H.length := (List.getElem?_eq_some_iff.1 hl).1
    refine ⟨E.withφ H.length w.heap.size, .pointer (some ⟨w.heap.size, 0, none⟩), w.alloc (.mapIter (some b) ck #[] ck), ?_, new_ext _ _ (Nat.le_refl _) hg _ _, ?_, .ptr _ _ _ (withφ_self _ _ _)⟩
    · have hget : (getObj b).run P w = .ok (.map ms ck) w := by simp [getObj, Sem.run, h3]
      simp only [execOp, ho, Instr.range, hv, Sem.run_bind, pureEval_run hu, Result.andThen_ok, hget, newObj, Sem.run, Sem.run_pure, pure_bind]
      rfl
    · refine (hg.push (.mapIter (some b) ck #[] ck)).adopt (by rw [alloc_size]; omega) (fun l ho => absurd (hg.ownlt ho) (Nat.lt_irrefl _)) (fun _ _ => by simp) ?_
      intro c hc
      rw [withφ_self] at hc
      simp only [Option.some.injEq] at hc
      subst hc
      exact ⟨hg.below.size, b, ck, (Env.withφ_le (hg.fresh (Nat.le_refl _)).1).φ hb, heap_alloc_new w _⟩

theorem opA_next_over {p : Operand} {l m : Nat} (ho : o.op = .next p false) (hp : opdA T p = .ptr l 0) (hl : H[l]? = some (.iter m)) (hm : H[m]? = some (.map [])) : OpA P o T H (.tup [.sc (.bool false)]) H [] := by
  refine opA_run fun E w0 w ρ hg ht => ?_
  have hr := ht p (by simp [ho, Op.operands])
  rw [hp] at hr
  generalize hv : ρ p = v at hr
  cases hr with
  | ptr l o b hb =>
    obtain ⟨h1, r, ck, h2, h3⟩ := hg.obj hl b hb
    obtain ⟨h5, ms, ck', h6, h7⟩ := hg.obj hm r h2
    have hms : ms = #[] := Array.eq_empty_of_size_eq_zero h7.1
    subst hms
    refine ⟨E, .tuple #[.bool false], w, ?_, .refl _ _ _ _ _, hg, .tup _ _ rfl (fun j x hj => ?_)⟩
    · simp only [execOp, ho, Instr.next, hv, Sem.run_bind, getObj, Sem.run, h3, h6, Result.andThen_ok]
      have hf : ∀ q : MapEntry → Bool, Array.filter q #[] 0 0 = #[] := fun _ => rfl
      simp [choose, Sem.run, Question.forced, Question.cut, Result.andThen, hf]
    · match j, hj with
      | 0, hj => simp at hj; subst hj; exact .sc _ rfl

/-! ### Bytes as a string -/
def bytesL : Nat → (Nat → List AV) → Option (List Int)
  | 0, _ => some []
  | n + 1, el => match el 0 with
    | [.sc (.int .u8 k)] => (bytesL n (fun i => el (i + 1))).map (k :: ·)
    | _ => none

def strB (ns : List Int) : ByteArray := ns.foldl (fun r n => r.push (UInt8.ofNat n.toNat)) ByteArray.empty

theorem bytesL_get : ∀ (n : Nat) (el : Nat → List AV) (ns : List Int), bytesL n el = some ns → ns.length = n ∧ ∀ j k, ns[j]? = some k → el j = [.sc (.int .u8 k)]
  | 0, el, ns, h => by
    simp only [bytesL, Option.some.injEq] at h
    subst h
    exact ⟨rfl, fun j k hj => by simp at hj⟩
  | n + 1, el, ns, h => by
    unfold bytesL at h
    split at h
    · rename_i k h0
      rw [Option.map_eq_some_iff] at h
      obtain ⟨ms, hms, rfl⟩ := h
      obtain ⟨h1, h2⟩ := bytesL_get n _ ms hms
      refine ⟨by simp [h1], fun j q hj => ?_⟩
      cases j with
      | zero => simp at hj; subst hj; exact h0
      | succ j => exact h2 j q (by simpa using hj)
    · cases h

theorem opS_bytesStr {src dst elem : TypeId} {p : Operand} {nl : Bool} {sz n : Nat} {el : Nat → List AV} {own : Own} {ns : List Int} (ho : o.op = .convert src dst p) (hu1 : pureEval P (underlying src) = some (.slice elem)) (hu2 : pureEval P (underlying dst) = some .string)
    (hu3 : pureEval P (underlying elem) = some (.int .u8)) (hp : opdA T p = .rsl nl sz n el own) (hsz : sz = 1 ∨ n = 0) (hns : bytesL n el = some ns) : OpS P o T H (.sc (.string (strB ns))) := by
  refine opS_intro fun E w0 w ρ hg ht => ⟨.string (strB ns), ?_, .sc _ rfl⟩
  obtain ⟨hlen, hel⟩ := bytesL_get n el ns hns
  have hr := ht p (by simp [ho, Op.operands])
  rw [hp] at hr
  generalize hv : ρ p = v at hr
  have hconv : ∀ a l c, (convert src dst (.slice a l c)).run P w = (Conv.bytesToString (.slice a l c)).run P w := fun a l c => by
    simp [convert, pureEval_run hu1, pureEval_run hu2, pureEval_run hu3]
  have hrun : (convert src dst v).run P w = .ok (.string (strB ns)) w := by
    cases hr with
    | rnil sz el own h =>
      have : ns = [] := List.length_eq_zero_iff.1 hlen
      subst this
      rw [hconv]
      simp [Conv.bytesToString, strB]
    | rodd sz el own a h =>
      have : ns = [] := List.length_eq_zero_iff.1 hlen
      subst this
      rw [hconv]
      exact run_bytesToString w _ _ _ [] (by simp [loadCells, loadCellsFrom, Sem.run])
    | rsl sz n el own b off c u hn ho' hc hl h1 hS hk =>
      rw [hconv]
      refine run_bytesToString w _ _ _ ns ?_
      have := run_loadCells_list (P := P) (w := w) ⟨b, off, none⟩ (ns.map (Value.int .u8)) (fun j v hj => ?_)
      · rw [List.length_map, hlen] at this
        exact this
      · rw [List.getElem?_map, Option.map_eq_some_iff] at hj
        obtain ⟨k, hj, rfl⟩ := hj
        have hjn : j < n := by rw [← hlen]; exact (List.getElem?_eq_some_iff.1 hj).1
        have hs1 : sz = 1 := by omega
        subst hs1
        have e := hel j k hj
        have h2 := hS j hjn 0 (.sc (.int .u8 k)) (by rw [e]; rfl)
        have h3 := hk j hjn 0 (.sc (.int .u8 k)) (by rw [e]; rfl)
        generalize u j 0 = q at h2 h3
        cases h3
        rw [add_plain']
        have := hg.snap h2
        simpa using this
  simp only [execOp, ho, hv, Sem.run_bind, hrun, Result.andThen_ok, Sem.run_pure]
end
end Go.Proofs.YtiipaliigpkfhaaGreat.Ab
