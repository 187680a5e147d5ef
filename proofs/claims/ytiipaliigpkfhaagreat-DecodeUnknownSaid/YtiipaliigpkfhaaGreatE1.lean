/- Part 24: the row's open arguments as abstract values. -/
import Derived.Test.YtiipaliigpkfhaaGreatC1
import Derived.ProofKit
set_option linter.unusedVariables false
set_option linter.unusedSimpArgs false
set_option maxRecDepth 100000
namespace Go.Proofs.YtiipaliigpkfhaaGreat.Ab
open Go Go.RowKit Go.Proofs Go.ChangeShapes

/-- All that lies there at the start stays. -/
def Env.old (W : World) : Env := { φ := fun _ => none, S := fun b o => W.cell? ⟨b, o, none⟩, G := fun _ _ => none }

theorem good_old (W : World) : Good (Env.old W) [] W W := by
  refine ⟨.refl _ _, fun h => h, fun {l o} h => by simp at h, fun {l l' b} h => ?_, fun _ => ⟨rfl, fun _ => rfl⟩, fun h => by cases h⟩
  unfold owns at h
  simp at h

/-- Cells, told. -/
def Told (W : World) (xs : List AV) (cs : List Value) : Prop := cs.length = xs.length ∧ ∀ (j : Nat) (a : AV), xs[j]? = some a → oneC a = true ∧ Rel (Env.old W).data a (cs.getD j undef)

theorem Told.one {W : World} {a : AV} {v : Value} (h : oneC a = true) (k : Rel (Env.old W).data a v) : Told W [a] [v] :=
  ⟨rfl, fun j x hj => by
    match j, hj with
    | 0, hj => simp at hj; subst hj; exact ⟨h, k⟩⟩

theorem Told.append {W : World} {xs bs : List AV} {cs ds : List Value} (h : Told W xs cs) (k : Told W bs ds) : Told W (xs ++ bs) (cs ++ ds) := by
  refine ⟨by simp [h.1, k.1], fun j a hj => ?_⟩
  by_cases hl : j < xs.length
  · rw [List.getElem?_append_left hl] at hj
    have := h.2 j a hj
    rw [List.getD_eq_getElem?_getD, List.getElem?_append_left (by rw [h.1]; exact hl)]
    simpa [List.getD_eq_getElem?_getD] using this
  · rw [List.getElem?_append_right (by omega)] at hj
    have := k.2 _ a hj
    rw [List.getD_eq_getElem?_getD, List.getElem?_append_right (by rw [h.1]; omega), h.1]
    simpa [List.getD_eq_getElem?_getD] using this

theorem pick_list {α : Type} {Q : Nat → α → Prop} : ∀ (n : Nat), (∀ i, i < n → ∃ a, Q i a) → ∃ l : List α, l.length = n ∧ ∀ i a, l[i]? = some a → Q i a
  | 0, _ => ⟨[], rfl, fun i a h => by simp at h⟩
  | n + 1, h => by
    obtain ⟨l, hl, hq⟩ := pick_list n (fun i hi => h i (by omega))
    obtain ⟨a, ha⟩ := h n (by omega)
    refine ⟨l ++ [a], by simp [hl], fun i x hx => ?_⟩
    by_cases hi : i < l.length
    · rw [List.getElem?_append_left hi] at hx; exact hq i x hx
    · rw [List.getElem?_append_right (by omega)] at hx
      have hi0 : i - l.length = 0 := by
        have := (List.getElem?_eq_some_iff.1 hx).1
        simp at this; omega
      rw [hi0] at hx
      simp at hx
      subst hx
      rw [show i = n by omega]
      exact ha

section
variable {H : Type} {enc : TypeId × Value → H} {P : Program} {W : World} {held : Bool}

/-- A row of the input. -/
theorem old_row {α : Type} (encF : α → List AV) {t e : TypeId} {sz fuel : Nat} {cs : List Value} {x : DataW H × List MemPlace} (ht : P.underlying t = some (.slice e)) (hc : P.cellsOf e = sz) (hpos : 0 < sz) (hsz : ∀ a, (encF a).length = sz)
    (hel : ∀ n, n < fuel → ∀ cs x, DataW.trod enc P W 0 (fun _ => true) held n e cs = some x → ∃ a : α, Told W (encF a) cs) (h : DataW.trod enc P W 0 (fun _ => true) held fuel t cs = some x) :
    ∃ (nl : Bool) (l : List α), Told W [.rsl nl sz l.length (fun i => (l.map encF).getD i []) .non] cs := by
  rcases DataW.trod_slice ht h with ⟨rfl, _⟩ | ⟨a, len, cap, elems, rest, n, rfl, rfl, _, hb, hl, hm, hlen, he, hsp, _⟩
  · exact ⟨true, [], .one rfl (.rnil _ _ _ (.inl rfl))⟩
  · rw [hc] at he hsp
    obtain ⟨hrl, hre⟩ := hsp rfl
    have hcell : ∀ i, i < cap → ∃ cs', W.cells? 0 (a.add (i * sz)) sz = some cs' ∧ ∃ y, DataW.trod enc P W 0 (fun _ => true) held n e cs' = some y := by
      intro i hi
      by_cases hil : i < len
      · have := he i hil
        rw [List.getElem?_eq_getElem (by omega), Option.bind_eq_some_iff] at this
        obtain ⟨cs', h1, h2⟩ := this
        exact ⟨cs', h1, _, h2⟩
      · have := hre (i - len) (by omega)
        rw [List.getElem?_eq_getElem (by omega), Option.bind_eq_some_iff] at this
        rw [show len + (i - len) = i by omega] at this
        obtain ⟨cs', h1, h2⟩ := this
        exact ⟨cs', h1, _, h2⟩
    by_cases h0 : cap = 0
    · subst h0
      have : len = 0 := by omega
      subst this
      exact ⟨false, [], .one rfl (.rodd _ _ _ a (.inl rfl))⟩
    · -- the address is a plain one
      obtain ⟨b, off, spot⟩ := a
      have hspot : spot = none := by
        obtain ⟨cs', h1, _⟩ := hcell 0 (by omega)
        have h2 := (World.cells?_some h1).2.2 0 hpos
        have hlen' := (World.cells?_some h1).2.1
        rw [List.getElem?_eq_getElem (by omega)] at h2
        simp only [Nat.zero_mul, Addr.add, if_true] at h2
        cases spot with
        | none => rfl
        | some s =>
          unfold World.cell? at h2
          simp at h2
          split at h2 <;> simp at h2
      subst hspot
      obtain ⟨l, hll, hlq⟩ := pick_list (Q := fun i (y : α) => ∃ cs', W.cells? 0 ((⟨b, off, none⟩ : Addr).add (i * sz)) sz = some cs' ∧ Told W (encF y) cs') len (fun i hi => by
        obtain ⟨cs', h1, y, h2⟩ := hcell i (by omega)
        obtain ⟨z, hz⟩ := hel n (Nat.lt_succ_self _) cs' y h2
        exact ⟨z, cs', h1, hz⟩)
      have hget : ∀ i, i < len → ∃ y, l[i]? = some y ∧ (l.map encF).getD i [] = encF y := fun i hi => by
        have hi' : i < l.length := by omega
        exact ⟨l[i], List.getElem?_eq_getElem hi', by simp [List.getD_eq_getElem?_getD, hi']⟩
      refine ⟨false, l, .one rfl ?_⟩
      rw [hll]
      refine .rsl sz len _ .non b off cap (fun i j => (W.cell? ⟨b, off + i * sz + j, none⟩).getD undef) hm hl hl (fun i hi => ?_) (fun i hi x hx => ?_) (fun i hi j x hj => ?_) (fun i hi j x hj => ?_)
      · obtain ⟨y, _, hy⟩ := hget i hi
        rw [hy, hsz]
      · obtain ⟨y, hy1, hy⟩ := hget i hi
        rw [hy] at hx
        obtain ⟨cs', _, hT⟩ := hlq i y hy1
        obtain ⟨j, hj⟩ := List.getElem?_of_mem hx
        exact (hT.2 j x hj).1
      · obtain ⟨y, hy1, hy⟩ := hget i hi
        rw [hy] at hj
        obtain ⟨cs', hcs, hT⟩ := hlq i y hy1
        have hjs : j < sz := by rw [← hsz y]; exact (List.getElem?_eq_some_iff.1 hj).1
        have h2 := (World.cells?_some hcs).2.2 j hjs
        have h3 := (World.cells?_some hcs).2.1
        rw [add_plain', add_plain', List.getElem?_eq_getElem (by omega)] at h2
        show W.cell? ⟨b, off + i * sz + j, none⟩ = some ((W.cell? ⟨b, off + i * sz + j, none⟩).getD undef)
        rw [h2]; rfl
      · obtain ⟨y, hy1, hy⟩ := hget i hi
        rw [hy] at hj
        obtain ⟨cs', hcs, hT⟩ := hlq i y hy1
        have hjs : j < sz := by rw [← hsz y]; exact (List.getElem?_eq_some_iff.1 hj).1
        have h2 := (World.cells?_some hcs).2.2 j hjs
        have h3 := (World.cells?_some hcs).2.1
        rw [add_plain', add_plain', List.getElem?_eq_getElem (by omega)] at h2
        have h4 := (hT.2 j x hj).2
        rw [List.getD_eq_getElem?_getD, List.getElem?_eq_getElem (by omega)] at h4
        show Rel (Env.old W).data.data x ((W.cell? ⟨b, off + i * sz + j, none⟩).getD undef)
        rw [h2]
        exact h4
end

/-! ### Bytes, messages, values -/
theorem encSlots_map : ∀ s, encSlots s = s.map encSlot
  | [] => by simp [encSlots]
  | x :: r => by simp [encSlots, encSlots_map r]
theorem encVals_map : ∀ s, encVals s = s.map encVal
  | [] => by simp [encVals]
  | x :: r => by simp [encVals, encVals_map r]

mutual
def Msg.ok : Msg → Prop
  | .mk _ s _ _ => slotsOkM s
def slotsOkM : List Slot → Prop
  | [] => True
  | x :: r => Slot.ok x ∧ slotsOkM r
def Slot.ok : Slot → Prop
  | .mk n _ v => (Lit.int .i64 n).wf = true ∧ valsOkM v
def valsOkM : List Val → Prop
  | [] => True
  | x :: r => Val.ok x ∧ valsOkM r
def Val.ok : Val → Prop
  | .mk n _ _ m => (Lit.int .u64 n).wf = true ∧ m.ok
end

theorem slotsOk_of : ∀ l : List { s : Slot // s.ok }, slotsOkM (l.map (·.1))
  | [] => by simp [slotsOkM]
  | x :: r => by simp only [List.map_cons, slotsOkM]; exact ⟨x.2, slotsOk_of r⟩
theorem valsOk_of : ∀ l : List { s : Val // s.ok }, valsOkM (l.map (·.1))
  | [] => by simp [valsOkM]
  | x :: r => by simp only [List.map_cons, valsOkM]; exact ⟨x.2, valsOk_of r⟩

theorem u8_of {n : Int} (h : (Lit.int .u8 n).wf = true) : (((UInt8.ofNat n.toNat).toNat : Nat) : Int) = n := by
  have : 0 ≤ n ∧ n < 256 := by
    simp only [Lit.wf, Bool.and_eq_true, decide_eq_true_eq] at h
    have h1 : IntKind.u8.min = 0 := by decide
    have h2 : IntKind.u8.max = 255 := by decide
    omega
  simp only [UInt8.toNat_ofNat']
  omega

section
variable {H : Type} {enc : TypeId × Value → H} {W : World} {held : Bool} {fuel : Nat} {cs : List Value} {x : DataW H × List MemPlace}

theorem fld {t o k n : Nat} {r : Option (DataW H × List MemPlace)} (h : DataW.trod enc Tryz.prog W 0 (fun _ => true) held n t ((cs.drop o).take (Tryz.prog.cellsOf t)) = r) (hs : Tryz.prog.cellsOf t = k) : DataW.trod enc Tryz.prog W 0 (fun _ => true) held n t ((cs.drop o).take k) = r := hs ▸ h

theorem told_bytes (h : DataW.trod enc Tryz.prog W 0 (fun _ => true) held fuel 23 cs = some x) : ∃ nl l, Told W [encB nl l] cs := by
  exact old_row encByte (e := 5) (sz := 1) Tryz.underlying23 (by kernel_rfl) (by omega) (fun _ => rfl) (fun n _ cs x hx => by
    obtain ⟨k, rfl, rfl, hw⟩ := DataW.trod_int Tryz.underlying5 hx
    exact ⟨UInt8.ofNat k.toNat, .one rfl (by rw [u8_of hw]; exact .sc _ rfl)⟩) h

theorem enc_len_msg (m : Msg) : (encMsg m).length = 2 := by cases m; simp [encMsg]
theorem enc_len_val (v : Val) : (encVal v).length = 4 := by cases v; simp [encVal, enc_len_msg]
theorem enc_len_slot (s : Slot) : (encSlot s).length = 2 := by cases s; simp [encSlot]

theorem told_msg : ∀ (fuel : Nat) (cs : List Value) (x : DataW H × List MemPlace), DataW.trod enc Tryz.prog W 0 (fun _ => true) held fuel 26 cs = some x → ∃ m : Msg, m.ok ∧ Told W (encMsg m) cs := by
  intro fuel
  induction fuel using Nat.strongRecOn with
  | _ fuel ih =>
    intro cs x h
    obtain ⟨xs, n, rfl, _, hlen, hxs, hf⟩ := DataW.trod_struct Tryz.underlying26 h
    have hl2 : cs.length = 2 := by rw [hlen]; kernel_rfl
    match cs, hl2 with
    | [c0, c1], _ =>
      have hx2 : xs.length = 2 := by rw [hxs]; rfl
      match xs, hx2 with
      | [x0, x1], _ =>
        have s24 : Tryz.prog.cellsOf 24 = 1 := by kernel_rfl
        have s23 : Tryz.prog.cellsOf 23 = 1 := by kernel_rfl
        have e0 : DataW.trod enc Tryz.prog W 0 (fun _ => true) held n 24 [c0] = some x0 := fld (t := 24) (o := 0) (k := 1) (cs := [c0, c1]) (hf 0 _ rfl) s24
        have e1 : DataW.trod enc Tryz.prog W 0 (fun _ => true) held n 23 [c1] = some x1 := fld (t := 23) (o := 1) (k := 1) (cs := [c0, c1]) (hf 1 _ rfl) s23
        obtain ⟨nb, bs, hB⟩ := told_bytes e1
        obtain ⟨ns, sl, hS⟩ := old_row (fun s : { s : Slot // s.ok } => encSlot s.1) (e := 43) (sz := 2) Tryz.underlying24 (by kernel_rfl) (by omega) (fun s => enc_len_slot s.1) (fun n1 hn1 cs1 y1 h1 => by
          obtain ⟨ys, n2, rfl, _, hlen1, hys, hf1⟩ := DataW.trod_struct Tryz.underlying43 h1
          have hl2 : cs1.length = 2 := by rw [hlen1]; kernel_rfl
          match cs1, hl2 with
          | [d0, d1], _ =>
            have hy2 : ys.length = 2 := by rw [hys]; rfl
            match ys, hy2 with
            | [z0, z1], _ =>
              have s3 : Tryz.prog.cellsOf 3 = 1 := by kernel_rfl
              have s41 : Tryz.prog.cellsOf 41 = 1 := by kernel_rfl
              have f0 : DataW.trod enc Tryz.prog W 0 (fun _ => true) held n2 3 [d0] = some z0 := fld (t := 3) (o := 0) (k := 1) (cs := [d0, d1]) (hf1 0 _ rfl) s3
              have f1 : DataW.trod enc Tryz.prog W 0 (fun _ => true) held n2 41 [d1] = some z1 := fld (t := 41) (o := 1) (k := 1) (cs := [d0, d1]) (hf1 1 _ rfl) s41
              obtain ⟨k, hk, _, hw⟩ := DataW.trod_int Tryz.underlying3 f0
              obtain ⟨nv, vl, hV⟩ := old_row (fun s : { s : Val // s.ok } => encVal s.1) (e := 28) (sz := 4) Tryz.underlying41 (by kernel_rfl) (by omega) (fun s => enc_len_val s.1) (fun n3 hn3 cs3 y3 h3 => by
                obtain ⟨us, n4, rfl, _, hlen3, hus, hf3⟩ := DataW.trod_struct Tryz.underlying28 h3
                have hl4 : cs3.length = 4 := by rw [hlen3]; kernel_rfl
                match cs3, hl4 with
                | [g0, g1, g2, g3], _ =>
                  have hu3 : us.length = 3 := by rw [hus]; rfl
                  match us, hu3 with
                  | [w0, w1, w2], _ =>
                    have s22 : Tryz.prog.cellsOf 22 = 1 := by kernel_rfl
                    have s26 : Tryz.prog.cellsOf 26 = 2 := by kernel_rfl
                    have k0 : DataW.trod enc Tryz.prog W 0 (fun _ => true) held n4 22 [g0] = some w0 := fld (t := 22) (o := 0) (k := 1) (cs := [g0, g1, g2, g3]) (hf3 0 _ rfl) s22
                    have k1 : DataW.trod enc Tryz.prog W 0 (fun _ => true) held n4 23 [g1] = some w1 := fld (t := 23) (o := 1) (k := 1) (cs := [g0, g1, g2, g3]) (hf3 1 _ rfl) s23
                    have k2 : DataW.trod enc Tryz.prog W 0 (fun _ => true) held n4 26 [g2, g3] = some w2 := fld (t := 26) (o := 2) (k := 2) (cs := [g0, g1, g2, g3]) (hf3 2 _ rfl) s26
                    obtain ⟨q, hq, _, hwq⟩ := DataW.trod_int Tryz.underlying22 k0
                    obtain ⟨nbb, bb, hBB⟩ := told_bytes k1
                    obtain ⟨m, hm, hM⟩ := ih n4 (by omega) _ _ k2
                    obtain rfl : g0 = .int .u64 q := by simpa using hq
                    refine ⟨⟨.mk q nbb bb m, by simp only [Val.ok]; exact ⟨hwq, hm⟩⟩, ?_⟩
                    have := (Told.one (W := W) (a := .sc (.int .u64 q)) rfl (.sc _ rfl)).append (hBB.append hM)
                    simpa [encVal] using this) f1
              obtain rfl : d0 = .int .i64 k := by simpa using hk
              refine ⟨⟨.mk k nv (vl.map (·.1)), by simp only [Slot.ok]; exact ⟨hw, valsOk_of vl⟩⟩, ?_⟩
              have := (Told.one (W := W) (a := .sc (.int .i64 k)) rfl (.sc _ rfl)).append hV
              simpa [encSlot, encVals_map, List.map_map, Function.comp_def] using this) e0
        refine ⟨.mk ns (sl.map (·.1)) nb bs, by simp only [Msg.ok]; exact slotsOk_of sl, ?_⟩
        have := hS.append hB
        simpa [encMsg, encSlots_map, List.map_map, Function.comp_def] using this

theorem told_val (h : DataW.trod enc Tryz.prog W 0 (fun _ => true) held fuel 28 cs = some x) : ∃ v : Val, v.ok ∧ Told W (encVal v) cs := by
  obtain ⟨us, n4, rfl, _, hlen3, hus, hf3⟩ := DataW.trod_struct Tryz.underlying28 h
  have hl4 : cs.length = 4 := by rw [hlen3]; kernel_rfl
  match cs, hl4 with
  | [g0, g1, g2, g3], _ =>
    have hu3 : us.length = 3 := by rw [hus]; rfl
    match us, hu3 with
    | [w0, w1, w2], _ =>
      have s22 : Tryz.prog.cellsOf 22 = 1 := by kernel_rfl
      have s23 : Tryz.prog.cellsOf 23 = 1 := by kernel_rfl
      have s26 : Tryz.prog.cellsOf 26 = 2 := by kernel_rfl
      have k0 : DataW.trod enc Tryz.prog W 0 (fun _ => true) held n4 22 [g0] = some w0 := fld (t := 22) (o := 0) (k := 1) (cs := [g0, g1, g2, g3]) (hf3 0 _ rfl) s22
      have k1 : DataW.trod enc Tryz.prog W 0 (fun _ => true) held n4 23 [g1] = some w1 := fld (t := 23) (o := 1) (k := 1) (cs := [g0, g1, g2, g3]) (hf3 1 _ rfl) s23
      have k2 : DataW.trod enc Tryz.prog W 0 (fun _ => true) held n4 26 [g2, g3] = some w2 := fld (t := 26) (o := 2) (k := 2) (cs := [g0, g1, g2, g3]) (hf3 2 _ rfl) s26
      obtain ⟨q, hq, _, hwq⟩ := DataW.trod_int Tryz.underlying22 k0
      obtain ⟨nbb, bb, hBB⟩ := told_bytes k1
      obtain ⟨m, hm, hM⟩ := told_msg _ _ _ k2
      obtain rfl : g0 = .int .u64 q := by simpa using hq
      refine ⟨.mk q nbb bb m, by simp only [Val.ok]; exact ⟨hwq, hm⟩, ?_⟩
      have := (Told.one (W := W) (a := .sc (.int .u64 q)) rfl (.sc _ rfl)).append (hBB.append hM)
      simpa [encVal] using this

theorem Told.agg {xs : List AV} {us : Array Value} (h : Told W xs us.toList) : Rel (Env.old W) (.agg xs) (.agg us) := by
  refine .agg xs us (by simpa using h.1) (fun j a hj => ?_)
  have := (h.2 j a hj).2.mono (Env.data_le _)
  simpa [Array.getD_eq_getD_getElem?, List.getD_eq_getElem?_getD] using this

theorem open_val {r : Reach} {b0 : Nat} {v : Value} {d : DataW H} {ps : List MemPlace} (hv : Value.okWide Tryz.prog W r b0 28 v) (h : DataW.Trod enc Tryz.prog W 0 (fun _ => true) held 28 v d ps) : ∃ x : Val, x.ok ∧ Rel (Env.old W) (.agg (encVal x)) v := by
  obtain ⟨fuel, h⟩ := h
  unfold Value.okWide at hv
  rw [Tryz.underlying28] at hv
  obtain ⟨us, rfl, _, _⟩ := hv
  obtain ⟨x, hx, hT⟩ := told_val h
  exact ⟨x, hx, hT.agg⟩

theorem open_msg {r : Reach} {b0 : Nat} {v : Value} {d : DataW H} {ps : List MemPlace} (hv : Value.okWide Tryz.prog W r b0 26 v) (h : DataW.Trod enc Tryz.prog W 0 (fun _ => true) held 26 v d ps) : ∃ x : Msg, x.ok ∧ Rel (Env.old W) (.agg (encMsg x)) v := by
  obtain ⟨fuel, h⟩ := h
  unfold Value.okWide at hv
  rw [Tryz.underlying26] at hv
  obtain ⟨us, rfl, _, _⟩ := hv
  obtain ⟨x, hx, hT⟩ := told_msg _ _ _ h
  exact ⟨x, hx, hT.agg⟩

/-- From a contract to what the row asks: the answer, and that all of before lies as it lay. -/
theorem calls_of_ctr {f : FuncId} {xs : List AV} {args : Array Value} {H1 : AHeap} {Wr : List Nat} {u : Value} (h : Ctr Tryz.prog f xs (.sc u) [] H1 Wr) (hr : RelL (Env.old W) xs args) :
    Calls Tryz.prog f args W fun e W' => e = .returned u ∧ Below W.heap.size W W' := by
  refine (h.2.1 (Env.old W) W W args (good_old W) hr).mono ?_
  rintro e W' ⟨E', re, ex, g⟩
  cases re with
  | ret x v hv =>
    cases hv
    exact ⟨rfl, g.below⟩
end
end Go.Proofs.YtiipaliigpkfhaaGreat.Ab
