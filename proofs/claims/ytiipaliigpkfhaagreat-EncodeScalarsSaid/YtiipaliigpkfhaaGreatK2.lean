/- A worth as bytes, and its kind on the wire: the program's function and the reference's; EncodeScalars answers true. -/
import Derived.Test.YtiipaliigpkfhaaGreatK1
import Derived.Test.YtiipaliigpkfhaaGreatF5
set_option linter.unusedVariables false
set_option linter.unusedSimpArgs false
set_option maxRecDepth 100000
namespace Go.Proofs.YtiipaliigpkfhaaGreat.Ab
open Go Go.RowKit Go.Proofs

def nilR : AV := .rsl true 0 0 (fun _ => []) .tight
def wireA (nl : Bool) (l : List Int) (kd : Int) : AV := .tup [rowI nl l, i64 kd]

/-- The switch. -/
def wireS {α : Type} (k : Int) (a1 a2 a3 a4 a5 : α) : α :=
  bif k == 3 then a1 else bif k == 4 then a1 else bif k == 5 then a1 else bif k == 13 then a1 else bif k == 8 then a1 else bif k == 14 then a1 else
  bif k == 17 then a2 else bif k == 18 then a2 else
  bif k == 6 then a3 else bif k == 16 then a3 else bif k == 1 then a3 else
  bif k == 7 then a4 else bif k == 15 then a4 else bif k == 2 then a4 else a5
theorem wireS_cases {α : Type} (C : α → Prop) (k : Int) {a1 a2 a3 a4 a5 : α} (h1 : C a1) (h2 : C a2) (h3 : C a3) (h4 : C a4) (h5 : C a5) : C (wireS k a1 a2 a3 a4 a5) := by
  have cb : ∀ (b : Bool) (x y : α), C x → C y → C (bif b then x else y) := fun b x y hx hy => by cases b <;> assumption
  unfold wireS
  repeat (first | assumption | refine cb _ _ _ ?_ ?_)
theorem wireS_map {α β : Type} (f : α → β) (k : Int) (a1 a2 a3 a4 a5 : α) : f (wireS k a1 a2 a3 a4 a5) = wireS k (f a1) (f a2) (f a3) (f a4) (f a5) := by
  have cb : ∀ (b : Bool) (x y : α), f (bif b then x else y) = bif b then f x else f y := fun b x y => by cases b <;> rfl
  simp only [wireS, cb]

section
variable (k : Int) (x : Val) (l1 : List Int) (z : Int) (l2 l8 l4 : List Int)
noncomputable def toldW : LoopO := told Tryz.prog [] [⟨16, 0, rowI false l1⟩, ⟨23, 0, .sc (.int .u64 z)⟩, ⟨24, 0, rowI false l2⟩, ⟨31, 0, rowI false l8⟩, ⟨38, 0, rowI false l4⟩]
/-- What the switch comes to, by the functions that it calls. -/
noncomputable def wireT (c1 c2 c3 : FuncId) (N : Int) : Option (AV × List Nat) :=
  wireS k (bif askCall Tryz.prog c1 [.sc (.int .u64 N)] [] (rowI false l1) then some (wireA false l1 0, []) else none)
    (bif askCall Tryz.prog c2 [.sc (.int .i64 (IntKind.wrap .i64 N))] [] (.sc (.int .u64 z)) then (bif askCall Tryz.prog c1 [.sc (.int .u64 z)] [] (rowI false l2) then some (wireA false l2 0, []) else none) else none)
    (bif askCall Tryz.prog c3 [.sc (.int .u64 N), .sc (.int .i64 8)] [] (rowI false l8) then some (wireA false l8 1, []) else none)
    (bif askCall Tryz.prog c3 [.sc (.int .u64 N), .sc (.int .i64 4)] [] (rowI false l4) then some (wireA false l4 5, []) else none)
    (some (.tup [nilR, i64 2], []))
theorem treeP : (evGL Tryz.prog noneT (fun _ => toldW l1 z l2 l8 l4) 10 35 [.sc (.int .i64 k), .agg (valP x)] []).via (fun r => (r.1, r.2.2)) = wireT k l1 z l2 l8 l4 80 81 82 x.n := by kernel_rfl
theorem treeR : (evGL Tryz.prog noneT (fun _ => toldW l1 z l2 l8 l4) 10 36 [.sc (.int .i64 k), .agg (valP x)] []).via (fun r => (r.1, r.2.2)) = wireT k l1 z l2 l8 l4 83 84 85 x.n := by kernel_rfl
end

/-- The bytes of a worth, and its kind. -/
noncomputable def wireV (k N : Int) : Bool × List Int × Int :=
  wireS k (false, shortL N, 0) (false, shortL (zigP (IntKind.wrap .i64 N)), 0) (false, fixL 8 N, 1) (false, fixL 4 N, 5) (true, [], 2)

theorem wk_pair {a b c d : AV} (h1 : Wk1 a b) (h2 : Wk1 c d) : Wk1 (.tup [a, c]) (.tup [b, d]) := by
  intro E v hr
  cases hr with
  | tup cs us hs hk =>
    refine .tup _ us hs (fun j y hj => ?_)
    match j, hj with
    | 0, hj => simp at hj; subst hj; exact h1 _ _ (hk 0 _ rfl)
    | 1, hj => simp at hj; subst hj; exact h2 _ _ (hk 1 _ rfl)

theorem wk_nil : Wk1 nilR (rowI true []) := by
  intro E v hr
  cases hr with
  | rnil => exact .rnil 1 _ .non (.inl rfl)

theorem lf_wire (nl : Bool) (l : List Int) (kd : Int) : LF (wireA nl l kd) := .tup _ (fun x hx => by
  simp only [List.mem_cons, List.mem_nil_iff, or_false] at hx
  rcases hx with rfl | rfl
  · exact lf_rowI nl l
  · exact .sc _)

/-- An answer without labels, nothing of before written, from the empty heap on. -/
theorem ctr_lfW {P : Program} (hm : P.follows .mixedOrders = true) {orc : OrcT} (horc : OrcOk P orc) {lo : FuncId → LoopO} (hl : ∀ g, LoopsOk P (lo g)) {n : Nat} {g : FuncId} {args : List AV} {F : Option (AV × List Nat)} {u y : AV} (h : (evGL P orc lo n g args []).via (fun r => (r.1, r.2.2)) = F) (hF : F = some (u, [])) (hw : Wk1 u y) (hy : LF y) (hy0 : lbA 0 y = true) (hargs : lbAs 0 args = true) (H : AHeap) : Ctr P g args y H H [] := by
  obtain ⟨r, hr, hq⟩ := via_some h hF
  have := evGL_ok hm horc hl n g args [] r hr
  simp only [Prod.mk.injEq] at hq
  rw [hq.1, hq.2] at this
  exact ctr_any (this.ansWk hw) hy hy0 hargs H

theorem wrap_i64_in (N : Int) : -9223372036854775808 ≤ IntKind.wrap .i64 N ∧ IntKind.wrap .i64 N < 9223372036854775808 := by
  simp only [IntKind.wrap, IntKind.bits, IntKind.signed]
  simp
  split <;> omega

theorem wire_ctr (g c1 c2 c3 : FuncId) (zf : Int → Int) (k : Int) (x : Val) (h0 : 0 ≤ x.n) (h1 : x.n < 18446744073709551616)
    (tree : ∀ l1 z l2 l8 l4, (evGL Tryz.prog noneT (fun _ => toldW l1 z l2 l8 l4) 10 g [.sc (.int .i64 k), .agg (valP x)] []).via (fun r => (r.1, r.2.2)) = wireT k l1 z l2 l8 l4 c1 c2 c3 x.n)
    (s : ∀ N : Int, 0 ≤ N → N < 18446744073709551616 → Ctr Tryz.prog c1 [.sc (.int .u64 N)] (rowI false (shortL N)) [] [] [])
    (zc : ∀ N : Int, Ctr Tryz.prog c2 [.sc (.int .i64 N)] (.sc (.int .u64 (zf N))) [] [] []) (ze : ∀ N : Int, -9223372036854775808 ≤ N → N < 9223372036854775808 → zf N = zigP N)
    (f8 : ∀ N : Int, Ctr Tryz.prog c3 [.sc (.int .u64 N), .sc (.int .i64 8)] (rowI false (fixL 8 N)) [] [] []) (f4 : ∀ N : Int, Ctr Tryz.prog c3 [.sc (.int .u64 N), .sc (.int .i64 4)] (rowI false (fixL 4 N)) [] [] []) (H : AHeap) :
    Ctr Tryz.prog g [.sc (.int .i64 k), .agg (valP x)] (wireA (wireV k x.n).1 (wireV k x.n).2.1 (wireV k x.n).2.2) H H [] := by
  obtain ⟨w0, w1⟩ := wrap_i64_in x.n
  have hz := zig_eq w0 w1
  have e : zf (IntKind.wrap .i64 x.n) = zigP (IntKind.wrap .i64 x.n) := ze _ w0 w1
  have hb := tree (shortL x.n) (zigP (IntKind.wrap .i64 x.n)) (shortL (zigP (IntKind.wrap .i64 x.n))) (fixL 8 x.n) (fixL 4 x.n)
  have zc' := zc (IntKind.wrap .i64 x.n)
  rw [e] at zc'
  unfold wireT at hb
  rw [askCall_of (s x.n h0 h1), askCall_of zc', askCall_of (s _ hz.2.1 hz.2.2), askCall_of (f8 x.n), askCall_of (f4 x.n)] at hb
  simp only [cond_true] at hb
  -- one case after the other: what is answered
  have key : ∃ u, wireS k (some (wireA false (shortL x.n) 0, ([] : List Nat))) (some (wireA false (shortL (zigP (IntKind.wrap .i64 x.n))) 0, [])) (some (wireA false (fixL 8 x.n) 1, [])) (some (wireA false (fixL 4 x.n) 5, [])) (some (.tup [nilR, i64 2], [])) = some (u, []) ∧ Wk1 u (wireA (wireV k x.n).1 (wireV k x.n).2.1 (wireV k x.n).2.2) := by
    have := wireS_cases (fun q : Option (AV × List Nat) × (Bool × List Int × Int) => ∃ u, q.1 = some (u, []) ∧ Wk1 u (wireA q.2.1 q.2.2.1 q.2.2.2)) k
      (a1 := (some (wireA false (shortL x.n) 0, []), (false, shortL x.n, 0))) (a2 := (some (wireA false (shortL (zigP (IntKind.wrap .i64 x.n))) 0, []), (false, shortL (zigP (IntKind.wrap .i64 x.n)), 0)))
      (a3 := (some (wireA false (fixL 8 x.n) 1, []), (false, fixL 8 x.n, 1))) (a4 := (some (wireA false (fixL 4 x.n) 5, []), (false, fixL 4 x.n, 5))) (a5 := (some (.tup [nilR, i64 2], []), (true, [], 2)))
      ⟨_, rfl, .refl _⟩ ⟨_, rfl, .refl _⟩ ⟨_, rfl, .refl _⟩ ⟨_, rfl, .refl _⟩ ⟨_, rfl, wk_pair wk_nil (.refl _)⟩
    rw [wireS_map Prod.fst, wireS_map Prod.snd] at this
    exact this
  obtain ⟨u, hu, hw⟩ := key
  exact ctr_lfW mixed (noneT_ok _) (fun _ => told_ok) hb hu hw (lf_wire _ _ _) rfl rfl H

theorem wireP_ctr (k : Int) (x : Val) (h0 : 0 ≤ x.n) (h1 : x.n < 18446744073709551616) (H : AHeap) : Ctr Tryz.prog 35 [.sc (.int .i64 k), .agg (valP x)] (wireA (wireV k x.n).1 (wireV k x.n).2.1 (wireV k x.n).2.2) H H [] :=
  wire_ctr 35 80 81 82 zigP k x h0 h1 (fun l1 z l2 l8 l4 => treeP k x l1 z l2 l8 l4) (fun N a b => shortP a b []) (fun N => zigP_ctr N []) (fun _ _ _ => rfl) (fun N => fix8P N []) (fun N => fix4P N []) H
theorem wireR_ctr (k : Int) (x : Val) (h0 : 0 ≤ x.n) (h1 : x.n < 18446744073709551616) (H : AHeap) : Ctr Tryz.prog 36 [.sc (.int .i64 k), .agg (valP x)] (wireA (wireV k x.n).1 (wireV k x.n).2.1 (wireV k x.n).2.2) H H [] :=
  wire_ctr 36 83 84 85 zigR k x h0 h1 (fun l1 z l2 l8 l4 => treeR k x l1 z l2 l8 l4) (fun N a b => shortR a b []) (fun N => zigR_ctr N []) (fun _ a b => (zig_eq a b).1.symm) (fun N => fix8R N []) (fun N => fix4R N []) H

/-! ### The law -/
def byteRow (l : List Int) : Nat → List AV := fun i => [.sc (.int .u8 (l.getD i 0))]
theorem bytesL_byteRow : ∀ l : List Int, bytesL l.length (byteRow l) = some l
  | [] => rfl
  | b :: r => by
    have e : (fun i => byteRow (b :: r) (i + 1)) = byteRow r := by funext i; simp [byteRow]
    have e0 : byteRow (b :: r) 0 = [.sc (.int .u8 b)] := by simp [byteRow]
    simp only [List.length_cons, bytesL, e0, e, bytesL_byteRow r]
    rfl

noncomputable def orc8 : OrcT := orElse (orAwake 34) (orKnown Tryz.prog 15 .bool)
theorem enc_tree (k : Int) (x : Val) (nl : Bool) (l : List Int) (kd : Int) : (evGL Tryz.prog orc8 (fun _ => told Tryz.prog [] [⟨24, 0, wireA nl l kd⟩, ⟨30, 0, wireA nl l kd⟩]) 10 8 [.sc (.int .i64 k), .agg (valP x)] []).via ansA =
    bif knownB Tryz.prog .bool 15 [.agg (msgP x.m)] then (bif !(knownN Tryz.prog .bool 15 [.agg (msgP x.m)] == 1) then T true else
      bif decide ((x.b.length : Int) > 500) then T true else
      bif askCall Tryz.prog 35 [.sc (.int .i64 k), .agg (valP x)] [] (wireA nl l kd) then (bif askCall Tryz.prog 36 [.sc (.int .i64 k), .agg (valP x)] [] (wireA nl l kd) then
        (bif (bytesL l.length (byteRow l)).isSome then (bif (bytesL l.length (byteRow l)).isSome then
          (bif (rowStr l.length (byteRow l)).toList == (rowStr l.length (byteRow l)).toList then T (kd == kd) else T false) else none) else none) else none) else none) else none := by kernel_rfl

theorem enc_ctr (aw : ∀ H, Ctr Tryz.prog 34 [] (.sc (.bool true)) H H []) (k : Int) (x : Val) (h0 : 0 ≤ x.n) (h1 : x.n < 18446744073709551616) : Ctr Tryz.prog 8 [.sc (.int .i64 k), .agg (valP x)] (.sc (.bool true)) [] [] [] := by
  have hb := enc_tree k x (wireV k x.n).1 (wireV k x.n).2.1 (wireV k x.n).2.2
  rw [knownB_of (few_known x.m), askCall_of (wireP_ctr k x h0 h1 []), askCall_of (wireR_ctr k x h0 h1 []), bytesL_byteRow] at hb
  refine ctr_scL mixed (orElse_ok (orAwake_ok aw) orKnown_ok) (fun _ => told_ok) hb ?_ (fun y hy => ?_) []
  · cases (knownN Tryz.prog .bool 15 [.agg (msgP x.m)] == 1) <;> cases decide ((x.b.length : Int) > 500) <;> simp [T]
  · simp only [List.mem_cons, List.mem_nil_iff, or_false] at hy
    rcases hy with rfl | rfl
    · exact .sc _
    · exact .agg _ (lf_val x)
end Go.Proofs.YtiipaliigpkfhaaGreat.Ab
