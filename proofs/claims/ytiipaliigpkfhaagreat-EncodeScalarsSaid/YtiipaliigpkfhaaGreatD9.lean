/- Part 27: loops of which no more is known than that they end in one of two ways. -/
import Derived.Test.YtiipaliigpkfhaaGreatD8
set_option linter.unusedVariables false
set_option linter.unusedSimpArgs false
set_option maxRecDepth 100000
namespace Go.Proofs.YtiipaliigpkfhaaGreat.Ab
open Go Go.RowKit

/-- What is kept of the temporaries; how it ends. -/
structure LoopK where
  ks : List Nat
  out : List AV → Bool → Int → AExit × List AV

def Ends (P : Program) (c : Code) (T : List AV) (f : Bool → Int → AExit × List AV) : Prop := ∃ b n, CodeOk P (.loop c) T [] (f b n).1 (f b n).2 [] []

open Classical in
noncomputable def endsB (P : Program) (c : Code) (T : List AV) (f : Bool → Int → AExit × List AV) : Bool := decide (Ends P c T f)
open Classical in
noncomputable def endsW (P : Program) (c : Code) (T : List AV) (f : Bool → Int → AExit × List AV) : Bool := if h : Ends P c T f then h.choose else true
open Classical in
noncomputable def endsN (P : Program) (c : Code) (T : List AV) (f : Bool → Int → AExit × List AV) : Int := if h : Ends P c T f then h.choose_spec.choose else 0

theorem endsB_of {P : Program} {c : Code} {T : List AV} {f : Bool → Int → AExit × List AV} (h : Ends P c T f) : endsB P c T f = true := by simp [endsB, h]
theorem ends_code {P : Program} {c : Code} {T : List AV} {f : Bool → Int → AExit × List AV} (h : endsB P c T f = true) : CodeOk P (.loop c) T [] (f (endsW P c T f) (endsN P c T f)).1 (f (endsW P c T f) (endsN P c T f)).2 [] [] := by
  have h' : Ends P c T f := by simpa [endsB] using h
  unfold endsW endsN
  rw [dif_pos h', dif_pos h']
  exact h'.choose_spec.choose_spec

def endOne (H : AHeap) (T0 : List AV) (r : AExit × List AV) : Tree OutE := if (lbAs 0 T0 && lbAs 0 r.2 && noPanic r.1) = true then .leaf (r.1, r.2, H, []) else .bad

noncomputable def endsT (P : Program) (c : Code) (K : LoopK) (T : List AV) (H : AHeap) : Tree OutE :=
  .br (endsB P c (fgo 0 K.ks T) (K.out (fgo 0 K.ks T)))
    (.br (endsW P c (fgo 0 K.ks T) (K.out (fgo 0 K.ks T)))
      (endOne H (fgo 0 K.ks T) (K.out (fgo 0 K.ks T) true (endsN P c (fgo 0 K.ks T) (K.out (fgo 0 K.ks T)))))
      (endOne H (fgo 0 K.ks T) (K.out (fgo 0 K.ks T) false (endsN P c (fgo 0 K.ks T) (K.out (fgo 0 K.ks T)))))) .bad

theorem endsT_ok {P : Program} {c : Code} {K : LoopK} {T T' : List AV} {H H' : AHeap} {x : AExit} {Wr : List Nat} (h : (endsT P c K T H).sel = some (x, T', H', Wr)) : CodeOk P (.loop c) T H x T' H' Wr := by
  rcases Tree.sel_br h with ⟨hb, h⟩ | ⟨_, h⟩
  · have hc := ends_code hb
    have fin : ∀ b, b = endsW P c (fgo 0 K.ks T) (K.out (fgo 0 K.ks T)) → (endOne H (fgo 0 K.ks T) (K.out (fgo 0 K.ks T) b (endsN P c (fgo 0 K.ks T) (K.out (fgo 0 K.ks T))))).sel = some (x, T', H', Wr) → CodeOk P (.loop c) T H x T' H' Wr := by
      intro b hbb h
      rw [← hbb] at hc
      unfold endOne at h
      split at h
      · rename_i hok
        simp only [Bool.and_eq_true] at hok
        have := Tree.sel_leaf h
        simp only [Prod.mk.injEq] at this
        obtain ⟨rfl, rfl, rfl, rfl⟩ := this
        have := hc.beside hok.1.1 hok.1.2 (fun o ho => by simp at ho) hok.2 H'
        exact this.weakIn (fgo_wk T 0 K.ks)
      · exact (Tree.sel_bad h).elim
    rcases Tree.sel_br h with ⟨hw, h⟩ | ⟨hw, h⟩
    · exact fin true hw.symm h
    · exact fin false hw.symm h
  · exact (Tree.sel_bad h).elim

/-- Loops by the number of their first row. -/
noncomputable def loopsEnd (P : Program) (tell : Nat → Option LoopK) : LoopO := ⟨fun c T H => match fstReg c with
  | some i => match tell i with
    | some K => some (endsT P c K T H)
    | none => none
  | none => none, fun _ _ _ _ => none⟩

theorem loopsEnd_ok {P : Program} {tell : Nat → Option LoopK} : LoopsOk P (loopsEnd P tell) := by
  refine ⟨fun c T H t x T' H' Wr h hr => ?_, noSite_ok⟩
  unfold loopsEnd at h
  simp only at h
  split at h
  · split at h
    · cases h; exact endsT_ok hr
    · cases h
  · cases h

theorem tidy_ok {P : Program} {c : Code} {T T1 : List AV} {H H1 : AHeap} {W1 : List Nat} {x : AExit} (h : CodeOk P c T H x T1 H1 W1) (hW : W1 = []) : CodeOk P c T H x T1 H1 [] := hW ▸ h

/-! ### What is told of one run: the loops by their first rows, the calls by their answers' places -/
/-- A loop: its first row; how much of the heap; which temporaries; how it ends. -/
structure ToldL where
  key : Nat
  n0 : Nat
  ks : List Nat
  x : AExit
  T : List AV
/-- A call: where its answer goes; how much of the heap; what it answers. -/
structure ToldC where
  site : Nat
  n0 : Nat
  x : AV

open Classical in
noncomputable def askL (P : Program) (c : Code) (T : List AV) (H : AHeap) (x : AExit) (T' : List AV) : Bool := decide (CodeOk P (.loop c) T H x T' H [])
open Classical in
noncomputable def askCall (P : Program) (g : FuncId) (args : List AV) (H : AHeap) (x : AV) : Bool := decide (Ctr P g args x H H [])

theorem askL_of {P : Program} {c : Code} {T T' : List AV} {H : AHeap} {x : AExit} (h : CodeOk P (.loop c) T H x T' H []) : askL P c T H x T' = true := by simp only [askL, decide_eq_true_eq]; exact h
theorem askCall_of {P : Program} {g : FuncId} {args : List AV} {H : AHeap} {x : AV} (h : Ctr P g args x H H []) : askCall P g args H x = true := by simp only [askCall, decide_eq_true_eq]; exact h

noncomputable def toldLT (P : Program) (e : ToldL) (c : Code) (T : List AV) (H : AHeap) : Tree OutE :=
  if (lbAs (H.take e.n0).length (fgo 0 e.ks T) && lbAs (H.take e.n0).length e.T && (H.take e.n0).all (objLB (H.take e.n0).length) && noPanic e.x) = true then
    .br (askL P c (fgo 0 e.ks T) (H.take e.n0) e.x e.T) (.leaf (e.x, e.T, H, [])) .bad
  else .bad

noncomputable def toldCT (P : Program) (e : ToldC) (g : FuncId) (args : List AV) (H : AHeap) : Tree (AV × AHeap × List Nat) :=
  if (lbAs (H.take e.n0).length args && lbA (H.take e.n0).length e.x && (H.take e.n0).all (objLB (H.take e.n0).length)) = true then
    .br (askCall P g args (H.take e.n0) e.x) (.leaf (e.x, H, [])) .bad
  else .bad

noncomputable def told (P : Program) (ls : List ToldL) (cs : List ToldC) : LoopO :=
  ⟨fun c T H => match fstReg c with
    | some i => match ls.find? (·.key == i) with
      | some e => some (toldLT P e c T H)
      | none => none
    | none => none,
   fun d g args H => match cs.find? (·.site == d) with
    | some e => some (toldCT P e g args H)
    | none => none⟩

theorem toldLT_ok {P : Program} {e : ToldL} {c : Code} {T T' : List AV} {H H' : AHeap} {x : AExit} {Wr : List Nat} (h : (toldLT P e c T H).sel = some (x, T', H', Wr)) : CodeOk P (.loop c) T H x T' H' Wr := by
  unfold toldLT at h
  split at h
  · rename_i hk
    simp only [Bool.and_eq_true, List.all_eq_true] at hk
    rcases Tree.sel_br h with ⟨hb, h⟩ | ⟨_, h⟩
    · have := Tree.sel_leaf h
      simp only [Prod.mk.injEq] at this
      obtain ⟨rfl, rfl, rfl, rfl⟩ := this
      simp only [askL, decide_eq_true_eq] at hb
      have := hb.beside hk.1.1.1 hk.1.1.2 hk.1.2 hk.2 (H'.drop e.n0)
      rw [List.take_append_drop] at this
      exact this.weakIn (fgo_wk T 0 e.ks)
    · exact (Tree.sel_bad h).elim
  · exact (Tree.sel_bad h).elim

theorem toldCT_ok {P : Program} {e : ToldC} {g : FuncId} {args : List AV} {H : AHeap} {r : AV × AHeap × List Nat} (h : (toldCT P e g args H).sel = some r) : Ctr P g args r.1 H r.2.1 r.2.2 := by
  unfold toldCT at h
  split at h
  · rename_i hk
    simp only [Bool.and_eq_true, List.all_eq_true] at hk
    rcases Tree.sel_br h with ⟨hb, h⟩ | ⟨_, h⟩
    · rw [Tree.sel_leaf h]
      simp only [askCall, decide_eq_true_eq] at hb
      have := ctr_beside hb hk.1.1 hk.1.2 hk.2 (H.drop e.n0)
      rw [List.take_append_drop] at this
      exact this
    · exact (Tree.sel_bad h).elim
  · exact (Tree.sel_bad h).elim

theorem told_ok {P : Program} {ls : List ToldL} {cs : List ToldC} : LoopsOk P (told P ls cs) := by
  refine ⟨fun c T H t x T' H' Wr h hr => ?_, fun d g args H t r h hr => ?_⟩
  · unfold told at h
    simp only at h
    split at h
    · split at h
      · cases h; exact toldLT_ok hr
      · cases h
    · cases h
  · unfold told at h
    simp only at h
    split at h
    · cases h; exact toldCT_ok hr
    · cases h
end Go.Proofs.YtiipaliigpkfhaaGreat.Ab
