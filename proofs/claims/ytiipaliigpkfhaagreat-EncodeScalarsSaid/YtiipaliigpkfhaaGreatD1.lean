/- Part 19: an evaluator for what is known whole, and what its answers mean. -/
import Derived.Test.YtiipaliigpkfhaaGreatB9
set_option linter.unusedVariables false
set_option linter.unusedSimpArgs false
namespace Go.Proofs.YtiipaliigpkfhaaGreat.Ab
open Go Go.RowKit

/-- An answer, or where it went astray. -/
inductive Ev (α : Type) where
  | ok (a : α)
  | bad (tr : List Nat)

/-! ### Maps -/
def mapT (P : Program) (t : TypeId) (k : Value) : Option (TypeId × TypeDesc × Value) :=
  match pureEval P (underlying t) with
  | some (.map kt et) => match pureEval P (underlying kt), pureEval P (zeroValue et), pureEval P (Instr.checkKey true 10000 kt k), pureEval P (Instr.checkKey false 10000 kt k) with
    | some d, some z, some _, some _ => some (kt, d, z)
    | _, _, _, _ => none
  | _ => none

theorem mapT_ok {P : Program} {t kt : TypeId} {d : TypeDesc} {z k : Value} (h : mapT P t k = some (kt, d, z)) : ∃ et, MapT P t kt et d z k := by
  unfold mapT at h
  split at h
  · rename_i kt' et hu
    split at h
    · rename_i d' z' a b h1 h2 h3 h4
      cases h
      exact ⟨et, hu, h1, h2, fun b => match b with | true => h3 | false => h4⟩
    · cases h
  · cases h

def stepM (P : Program) (o : Oper) (T : List AV) (H : AHeap) : Option (AV × AHeap × List Nat) :=
  match o.op with
  | .makeMap _ none => some (.mapr H.length, H ++ [.map []], [])
  | .lookup t p q ok => match opdA T p, keyV (opdA T q) with
    | .mapr l, some k => match H[l]?, mapT P t k with
      | some (.map es), some (kt, d, z) => match findKeyA P kt d k es with
        | some r => match gotA es z r with
          | some x => some (if ok then .tup [x, .sc (.bool r.isSome)] else x, H, [])
          | none => none
        | none => none
      | _, _ => none
    | _, _ => none
  | .mapUpdate t p q s => match opdA T p, keyV (opdA T q) with
    | .mapr l, some k => match H[l]?, mapT P t k with
      | some (.map es), some (kt, d, z) => match findKeyA P kt d k es with
        | some none => some (.any, H.set l (.map (upd es k (opdA T s) none)), [l])
        | some (some i) => match es[i]? with
          | some e => if Instr.sameBits 10000 e.1 k = true then some (.any, H.set l (.map (upd es k (opdA T s) (some i))), [l]) else none
          | none => none
        | none => none
      | _, _ => none
    | _, _ => none
  | .mapEntry t p q => match opdA T p, keyV (opdA T q) with
    | .mapr l, some k => match H[l]?, mapT P t k with
      | some (.map es), some (kt, d, z) => match findKeyA P kt d k es with
        | some none => some (.tup [constA z, .stamp l es.length], H.set l (.map (es ++ [(k, constA z)])), [l])
        | some (some i) => match es[i]? with
          | some e => if Instr.sameBits 10000 e.1 k = true then some (.tup [e.2, .stamp l i], H.set l (.map (es.set i (k, e.2))), [l]) else none
          | none => none
        | none => none
      | _, _ => none
    | _, _ => none
  | .entryStore t p s q => match opdA T p, opdA T s with
    | .mapr l, .stamp l' i => if l' = l then match H[l]? with
        | some (.map es) => match es[i]? with
          | some e => some (.any, H.set l (.map (es.set i (e.1, opdA T q))), [l])
          | none => none
        | _ => none
      else none
    | _, _ => none
  | .range t p => match pureEval P (underlying t), opdA T p with
    | some (.map _ _), .mapr l => match H[l]? with
      | some (.map []) => some (.ptr H.length 0, H ++ [.iter l], [])
      | _ => none
    | _, _ => none
  | .convert src dst p => match pureEval P (underlying src), pureEval P (underlying dst), opdA T p with
    | some (.slice e), some .string, .rsl nl sz n el own => if isU8 P e = true ∧ (sz = 1 ∨ n = 0) then match bytesL n el with
        | some ns => some (.sc (.string (strB ns)), H, [])
        | none => none
      else none
    | _, _, _ => none
  | .next p false => match opdA T p with
    | .ptr l 0 => match H[l]? with
      | some (.iter m) => match H[m]? with
        | some (.map []) => some (.tup [.sc (.bool false)], H, [])
        | _ => none
      | _ => none
    | _ => none
  | .call c => match c.callee, c.args.toList, c.argTypes[0]? with
    | .builtin .len, [p], some t => match pureEval P (underlying t), opdA T p with
      | some (.map _ _), .mapr l => match H[l]? with
        | some (.map es) => some (.sc (.int .i64 es.length), H, [])
        | _ => none
      | _, _ => none
    | _, _, _ => none
  | _ => none

theorem stepM_sound {P : Program} {o : Oper} {T : List AV} {H H1 : AHeap} {x : AV} {Wr : List Nat} (h : stepM P o T H = some (x, H1, Wr)) : OpA P o T H x H1 Wr ∧ Keeps H H1 Wr := by
  unfold stepM at h
  split at h
  · rename_i t ho
    cases h
    exact ⟨opA_makeMap ho, .push _ _⟩
  · rename_i t p q ok ho
    split at h
    · rename_i l k hp hk
      split at h
      · rename_i es kt d z hl hT
        obtain ⟨et, hT⟩ := mapT_ok hT
        split at h
        · rename_i r hf
          split at h
          · rename_i y hy
            cases h
            exact ⟨(opA_lookup ho hT hp hl hk hf hy).a, .refl _ _⟩
          · cases h
        · cases h
      · cases h
    · cases h
  · rename_i t p q s ho
    split at h
    · rename_i l k hp hk
      split at h
      · rename_i es kt d z hl hT
        obtain ⟨et, hT⟩ := mapT_ok hT
        split at h
        · rename_i hf
          cases h
          exact ⟨opA_mapUpdate ho hT hp hl hk hf (fun i e => by cases e), .set _ _ _⟩
        · rename_i i hf
          split at h
          · rename_i e he
            split at h
            · rename_i hs
              cases h
              exact ⟨opA_mapUpdate ho hT hp hl hk hf (fun j e' => by cases e'; exact ⟨e, he, hs⟩), .set _ _ _⟩
            · cases h
          · cases h
        · cases h
      · cases h
    · cases h
  · rename_i t p q ho
    split at h
    · rename_i l k hp hk
      split at h
      · rename_i es kt d z hl hT
        obtain ⟨et, hT⟩ := mapT_ok hT
        split at h
        · rename_i hf
          cases h
          exact ⟨opA_mapEntry ho hT hp hl hk hf (.inl ⟨rfl, rfl, rfl, rfl⟩), .set _ _ _⟩
        · rename_i i hf
          split at h
          · rename_i e he
            split at h
            · rename_i hs
              cases h
              exact ⟨opA_mapEntry ho hT hp hl hk hf (.inr ⟨e, rfl, he, hs, rfl, rfl⟩), .set _ _ _⟩
            · cases h
          · cases h
        · cases h
      · cases h
    · cases h
  · rename_i t p s q ho
    split at h
    · rename_i l l' i hp hs
      split at h
      · rename_i hll
        subst hll
        split at h
        · rename_i es hl
          split at h
          · rename_i e he
            cases h
            exact ⟨opA_entryStore ho hp hs hl he, .set _ _ _⟩
          · cases h
        · cases h
      · cases h
    · cases h
  · rename_i t p ho
    split at h
    · rename_i kt et l hu hp
      split at h
      · rename_i hl; cases h; exact ⟨opA_range (es := []) ho hu hp hl, .push _ _⟩
      · cases h
    · cases h
  · rename_i src dst p ho
    split at h
    · rename_i e nl sz n el own hu1 hu2 hp
      split at h
      · rename_i h8
        split at h
        · rename_i ns hns; cases h; exact ⟨(opS_bytesStr ho hu1 hu2 (isU8_eq h8.1) hp h8.2 hns).a, .refl _ _⟩
        · cases h
      · cases h
    · cases h
  · rename_i p ho
    split at h
    · rename_i l hp
      split at h
      · rename_i m hl
        split at h
        · rename_i hm; cases h; exact ⟨opA_next_over ho hp hl hm, .refl _ _⟩
        · cases h
      · cases h
    · cases h
  · rename_i c ho
    split at h
    · rename_i p t hc ha ht
      split at h
      · rename_i kt et l hu hp
        split at h
        · rename_i es hl
          cases h
          exact ⟨(opS_lenMap ho hc (by apply Array.ext'; simpa using ha) ht hu hp hl).a, .refl _ _⟩
        · cases h
      · cases h
    · cases h
  · cases h

/-! ### What may come at any time -/
/-- What making sure of an entry makes of a map. -/
def entryObj (P : Program) : Tr := fun t k ob =>
  match ob with
  | .map es => match mapT P t k with
    | some (kt, d, z) => match findKeyA P kt d k es with
      | some none => some (.map (es ++ [(k, constA z)]))
      | some (some i) => match es[i]? with
        | some e => if Instr.sameBits 10000 e.1 k = true then some (.map (es.set i (k, e.2))) else none
        | none => none
      | none => none
    | none => none
  | _ => none

def softOf (o : Oper) (T : List AV) : Soft :=
  match o.op with
  | .mapEntry t p q => match opdA T p, keyV (opdA T q) with
    | .mapr l, some k => some (l, t, k)
    | _, _ => none
  | _ => none

theorem stepM_soft {P : Program} {o : Oper} {T : List AV} {H H1 : AHeap} {x : AV} {Wr : List Nat} (h : stepM P o T H = some (x, H1, Wr)) : ∀ l t k, softOf o T = some (l, t, k) → ∃ ob, (H[l]?).bind (entryObj P t k) = some ob ∧ H1[l]? = some ob := by
  intro l t k hs
  unfold softOf at hs
  split at hs
  · rename_i t' p q ho
    split at hs
    · rename_i l' k' hp hk
      cases hs
      unfold stepM at h
      rw [ho] at h
      simp only [hp, hk] at h
      split at h
      · rename_i es kt d z hl hT
        have hlt := (List.getElem?_eq_some_iff.1 hl).1
        split at h
        · rename_i hf
          cases h
          refine ⟨.map (es ++ [(k, constA z)]), ?_, by rw [List.getElem?_set_self hlt]⟩
          rw [hl]
          simp only [Option.bind_some, entryObj, hT, hf]
        · rename_i i hf
          split at h
          · rename_i e he
            split at h
            · rename_i hb
              cases h
              refine ⟨.map (es.set i (k, e.2)), ?_, by rw [List.getElem?_set_self hlt]⟩
              rw [hl]
              simp only [Option.bind_some, entryObj, hT, hf, he, hb, if_true]
            · cases h
          · cases h
        · cases h
      · cases h
    · cases hs
  · cases hs

/-- The entry that a look-up may find made sure of: it finds the same. -/
def softL (P : Program) (l : Nat) (t : TypeId) (k : Value) (es : List (Value × AV)) (x : AV) (ok : Bool) : Soft :=
  match ok, entryObj P t k (.map es), mapT P t k, x with
  | false, some (.map es'), some (kt, d, z), .sc v => match findKeyA P kt d k es' with
    | some r' => match gotA es' z r' with
      | some (.sc v') => if samePlain v v' = true then some (l, t, k) else none
      | _ => none
    | none => none
  | _, _, _, _ => none

/-- A value that is known agrees with what is told. -/
def cellOk : AV → Value → Bool
  | .any, _ => true
  | .sc a, b => samePlain a b
  | .rsl true _ 0 _ .non, .slice none 0 0 => true
  | .rsl true _ 0 _ .tight, .slice none 0 0 => true
  | _, _ => false

theorem cellOk_rel {E : Env} {x : AV} {v : Value} (h : cellOk x v = true) : Rel E x v := by
  unfold cellOk at h
  split at h
  · exact .any _
  · obtain ⟨rfl, hp⟩ := samePlain_eq h; exact .sc _ hp
  · exact .rnil _ _ _ (.inl rfl)
  · exact .rnil _ _ _ (.inr rfl)
  · cases h

def cellsOk : List AV → List Value → Bool
  | [], _ => true
  | x :: r, v :: s => cellOk x v && cellsOk r s
  | _ :: _, [] => false

theorem cellsOk_rel {E : Env} : ∀ {cs : List AV} {vs : List Value}, cellsOk cs vs = true → RelCells E cs vs.toArray
  | [], _, _ => fun j x h => by simp at h
  | x :: r, v :: s, h => by
    simp only [cellsOk, Bool.and_eq_true] at h
    intro j y hy
    cases j with
    | zero => simp at hy; subst hy; exact ⟨v, by simp, cellOk_rel h.1⟩
    | succ j =>
      simp at hy
      obtain ⟨u, hu, hr⟩ := cellsOk_rel h.2 j y hy
      exact ⟨u, by simpa using hu, hr⟩
  | _ :: _, [], h => by simp [cellsOk] at h

/-- What comes to the same wherever it comes; nx: the next label that was kept. -/
def quietF (P : Program) (o : Oper) (T : List AV) (H : AHeap) (nx : Option Nat) : Option (AV × Rd) :=
  match nx with
  | none => none
  | some l => match o.op with
    | .alloc t => match pureEval P (zeroValue t), H[l]? with
      | some z, some (.cells cs) => if cellsOk cs z.cells.toList = true then some (.ptr l 0, ⟨[l], some l, none⟩) else none
      | _, _ => none
    | .buildSlice _ _ _ => match stepX P o T [] with
      | some (x, _, _) => some (x, rd0)
      | none => none
    | .lookup t p q ok => match opdA T p, keyV (opdA T q) with
      | .mapr l, some k => match H[l]?, mapT P t k with
        | some (.map es), some (kt, d, z) => match findKeyA P kt d k es with
          | some r => match gotA es z r with
            | some x => some (if ok then .tup [x, .sc (.bool r.isSome)] else x, ⟨[l], none, softL P l t k es x ok⟩)
            | none => none
          | none => none
        | _, _ => none
      | _, _ => none
    | _ => none

theorem quietF_ok {P : Program} {o : Oper} {T : List AV} {H : AHeap} {nx : Option Nat} {x : AV} {rd : Rd} (h : quietF P o T H nx = some (x, rd)) : (∀ H2 : AHeap, (∀ l ∈ rd.labs, H2[l]? = H[l]? ∨ ∃ t k ob, rd.soft = some (l, t, k) ∧ (H[l]?).bind (entryObj P t k) = some ob ∧ H2[l]? = some ob) → OpF P o T H2 x rd.al) ∧ nx.isSome = true := by
  unfold quietF at h
  split at h
  · cases h
  · rename_i l
    refine ⟨?_, rfl⟩
    split at h
    · rename_i t ho
      split at h
      · rename_i z cs hz hl
        split at h
        · rename_i hc
          cases h
          intro H2 h2
          have hl2 : H2[l]? = some (.cells cs) := ((h2 l (by simp)).elim id (fun ⟨_, _, _, e, _⟩ => by simp at e)).trans hl
          intro E w0 w ρ hg hna ht
          have hφ := hna l rfl
          have hrc : RelCells E cs z.cells := by have := cellsOk_rel (E := E) hc; simpa using this
          have hx : (execOp ρ o).run P w = .ok (.value (.pointer (some ⟨w.heap.size, 0, none⟩))) (w.alloc (.cells z.cells t)) := by
            simp only [execOp, ho, Instr.alloc, Sem.run_bind, pureEval_run hz, Result.andThen_ok]
            simp only [newVar, newRow, newObj, Sem.run_bind, Sem.run, Sem.run_pure, Result.andThen_ok]
            rfl
          unfold OpR
          rw [hx]
          refine ⟨E.withφ l w.heap.size, ⟨Env.withφ_le hφ, by rw [alloc_size]; omega, fun hb => Below.heap_alloc w _ _ (hg.ownlt hb), fun {k} hk hne => withφ_ne E (fun e => hne (by rw [e])), fun {b} hb h => ⟨Below.heap_alloc w _ _ hb, fun k ho => (owns_settle ho).elim (h k) (fun e => by omega), fun _ => rfl⟩⟩, hg.settle t hl2 hφ hrc, .ptr _ _ _ (withφ_self _ _ _)⟩
        · cases h
      · cases h
    · rename_i t n ps ho
      split at h
      · rename_i y H' W' hx
        cases h
        intro H2 _
        refine OpA.f ?_
        have hx2 : stepX P o T H2 = some (x, H2, []) := by
          unfold stepX at hx ⊢
          rw [ho] at hx ⊢
          simp only at hx ⊢
          split at hx
          · split at hx
            · split at hx
              · split at hx
                · rename_i hc; cases hx; rw [if_pos hc]
                · cases hx
              · cases hx
            · cases hx
          · cases hx
        exact stepX_sound hx2
      · cases h
    · rename_i t p q ok ho
      split at h
      · rename_i l' k hp hk
        split at h
        · rename_i es kt d z hl hT
          obtain ⟨et, hT⟩ := mapT_ok hT
          split at h
          · rename_i r hf
            split at h
            · rename_i y hy
              cases h
              intro H2 h2
              rcases h2 l' (by simp) with e | ⟨t', k', ob, hs, e1, e2⟩
              · exact (opA_lookup ho hT hp (e.trans hl) hk hf hy).a.f
              · -- the entry has been made sure of: the same is found
                unfold softL at hs
                split at hs
                · rename_i es' kt' d' z' v he' hT' 
                  split at hs
                  · rename_i r' hf'
                    split at hs
                    · rename_i v' hg'
                      split at hs
                      · rename_i hv
                        cases hs
                        rw [hl] at e1
                        simp only [Option.bind_some] at e1
                        rw [he'] at e1
                        cases e1
                        obtain ⟨et', hT2⟩ := mapT_ok hT'
                        rw [(samePlain_eq hv).1]
                        exact (opA_lookup (ok := false) ho hT2 hp e2 hk hf' hg').a.f
                      · cases hs
                    · cases hs
                  · cases hs
                · cases hs
            · cases h
          · cases h
        · cases h
      · cases h
    · cases h

/-- The labels that are kept, and what stands there. -/
def resv (P : Program) : List Oper → AHeap
  | [] => []
  | o :: r => match o.op with
    | .alloc t => (match pureEval P (zeroValue t) with
      | some z => .cells (constA z).cells
      | none => .dead) :: resv P r
    | _ => resv P r

theorem resv_idle (P : Program) : ∀ l, ∀ o ∈ resv P l, idle o = true
  | [], o, h => by cases h
  | q :: r, o, h => by
    unfold resv at h
    split at h
    · rcases List.mem_cons.1 h with rfl | h
      · split <;> rfl
      · exact resv_idle P r o h
    · exact resv_idle P r o h

def nextL (o : Oper) (nx : Option Nat) : Option Nat :=
  match nx with
  | none => none
  | some l => match o.op with
    | .alloc _ => some (l + 1)
    | _ => some l

theorem nextL_some {o : Oper} {nx : Option Nat} : (nextL o nx).isSome = nx.isSome := by
  unfold nextL
  split
  · rfl
  · split <;> rfl

/-! ### Results, cells among them -/
def resC (P : Program) (H : AHeap) (rs : List ResultVar) (T : List AV) : Option (List AV) :=
  match rs with
  | [] => some []
  | .tmp t :: r => (resC P H r T).map (T.getD t .any :: ·)
  | .cell a t :: r => match (cellsOfA H (T.getD a .any)).bind (loadA P t), resC P H r T with
    | some x, some xs => some (x :: xs)
    | _, _ => none

def resultC (P : Program) (H : AHeap) (fn : Func) (T : List AV) : Option AV :=
  match resC P H fn.results.toList T with
  | some [x] => some x
  | some xs => some (.tup xs)
  | none => none

/-! ### Rows -/
abbrev CallE := FuncId → List AV → AHeap → Ev (AV × AHeap × List Nat)

def below (n : Nat) (W : List Nat) : List Nat := W.filter (decide <| · < n)

def step2 (P : Program) (call : CallE) (nx : Option Nat) (o : Oper) (T : List AV) (H : AHeap) : Ev (AV × AHeap × Bool × Rd × List Nat) :=
  match quietF P o T H nx with
  | some (x, rd) => .ok (x, H, true, rd, [])
  | none => match step1 P o T H with
  | some r => .ok r
  | none => match stepM P o T H with
    | some (x, H1, Wr) => .ok (x, H1, false, rdS (softOf o T), Wr)
    | none => match calleeA o T with
      | some (g, args) => match call g args H with
        | .ok (x, H1, Wr) => .ok (x, H1, false, rd0, Wr)
        | .bad tr => .bad tr
      | none => .bad []

def evR (P : Program) (call : CallE) (ops : Array Oper) : List Oper → Option Nat → List AV → AHeap → Ev (List AV × AHeap × Log)
  | [], _, T, H => .ok (T, H, [])
  | o :: r, nx, T, H =>
    match wantedA ops T o with
    | some false => match evR P call ops r (nextL o nx) (putA T o.dst skipA) H with
      | .ok (T', H', L) => .ok (T', H', e0 :: L)
      | .bad tr => .bad tr
    | some true =>
      match step2 P call nx o T H with
      | .ok (x, H1, e) => match evR P call ops r (nextL o nx) (putA T o.dst x) H1 with
        | .ok (T', H', L) => .ok (T', H', e :: L)
        | .bad tr => .bad tr
      | .bad tr => .bad (r.length :: tr)
    | none => .bad [r.length, 1000]

abbrev OutE := AExit × List AV × AHeap × List Nat

def iterE (f : List AV → AHeap → Ev OutE) : Nat → List AV → AHeap → Ev OutE
  | 0, _, _ => .bad [2000]
  | k + 1, T, H => match f T H with
    | .ok (.normal, T', H', W) => match iterE f k T' H' with
      | .ok (x, T2, H2, W2) => .ok (x, T2, H2, W ++ W2)
      | .bad tr => .bad tr
    | r => r

def evCb (P : Program) (call : CallE) (sco : Code → List AV → AHeap → Ev OutE) (n : Nat) : Code → List AV → AHeap → Ev OutE
  | .skip, T, H => .ok (.normal, T, H, [])
  | .label _, T, H => .ok (.normal, T, H, [])
  | .exit i, T, H => .ok (.exit i, T, H, [])
  | .goto i, T, H => .ok (.goto i, T, H, [])
  | .ret, T, H => .ok (.ret, T, H, [])
  | .seq a b, T, H => match evCb P call sco n a T H with
    | .ok (.normal, T', H', W) => match evCb P call sco n b T' H' with
      | .ok (x, T2, H2, W2) => .ok (x, T2, H2, W ++ W2)
      | .bad tr => .bad tr
    | r => r
  | .block i c, T, H => match evCb P call sco n c T H with
    | .ok (.exit j, T', H', W) => if j = i then .ok (.normal, T', H', W) else .ok (.exit j, T', H', W)
    | r => r
  | .cond c a b, T, H => match opdA T c with
    | .sc (.bool true) => evCb P call sco n a T H
    | .sc (.bool false) => evCb P call sco n b T H
    | _ => .bad [3000]
  | .region id ops false, T, H => match evR P call ops ops.toList none T H with
    | .ok (T', H', L) => .ok (.normal, T', H', wrs L)
    | .bad tr => .bad (id :: tr)
  | .region id ops true, T, H => match evR P call ops ops.toList (some H.length) T (H ++ resv P ops.toList) with
    | .ok (T', H', L) => if drawOk ops H.length (H ++ resv P ops.toList).length L = true then .ok (.normal, T', H', wrs L) else .bad [id, 4000]
    | .bad tr => .bad (id :: tr)
  | .loop c, T, H => iterE (evCb P call sco n c) n T H
  | .rangeFunc _ _ _ _, _, _ => .bad [5000]
  | .scope c, T, H => sco c T H
  | .refuse _, _, _ => .bad [7000]

/-- From label to label. -/
def passE (f : Code → List AV → AHeap → Ev OutE) (c : Code) : Nat → Code → List AV → AHeap → Ev OutE
  | 0, _, _, _ => .bad [6001]
  | k + 1, d, T, H => match f d T H with
    | .ok (.goto l, T', H', W) => match findLabel c l with
      | some rest => match passE f c k rest T' H' with
        | .ok (x, T2, H2, W2) => .ok (x, T2, H2, W ++ W2)
        | .bad tr => .bad tr
      | none => .bad [6002]
    | r => r

def evC (P : Program) (call : CallE) : Nat → Code → List AV → AHeap → Ev OutE
  | 0 => evCb P call (fun _ _ _ => .bad [6000]) 0
  | n + 1 => evCb P call (fun c T H => passE (evC P call n) c n c T H) (n + 1)

end Go.Proofs.YtiipaliigpkfhaaGreat.Ab
