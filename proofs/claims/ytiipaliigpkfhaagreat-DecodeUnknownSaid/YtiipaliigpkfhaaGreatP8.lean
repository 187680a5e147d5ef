/- The third alarm clock: a closed run, with the reading of its four bytes known beforehand. -/
import Derived.Test.YtiipaliigpkfhaaGreatP7
set_option linter.unusedVariables false
set_option linter.unusedSimpArgs false
set_option maxRecDepth 100000
namespace Go.Proofs.YtiipaliigpkfhaaGreat.Ab
open Go Go.RowKit Go.Proofs

def b4 : List Int := [8, 1, 8, 2]
def x4 : Nat → Int := fun i => b4.getD i 0
def raws4 : List RawD := [⟨8 / 8, 0, 1, 0, fun _ => 0⟩, ⟨8 / 8, 0, 2, 0, fun _ => 0⟩]

theorem x4_bytes : Bytes 4 x4 := by
  intro j hj
  match j, hj with
  | 0, _ => exact ⟨by decide, by decide⟩
  | 1, _ => exact ⟨by decide, by decide⟩
  | 2, _ => exact ⟨by decide, by decide⟩
  | 3, _ => exact ⟨by decide, by decide⟩

theorem take4 {n : Nat} {x : Nat → Int} {a : AV} (hx : Bytes n x) (h : takeP n x 11 0 0 = some a) : takeA n x = a := by
  have := (takeA_is hx).1
  rw [h] at this
  exact (Option.some.inj this).symm

theorem flds4 : Flds 4 x4 0 raws4 0 0 := by
  have b0 := shift_bytes x4_bytes 0 4 (by omega)
  have b2 := shift_bytes x4_bytes 2 2 (by omega)
  have t0 : takeA (4 - 0) (fun i => x4 (i + 0)) = trip 8 ((1 : Nat) : Int) 0 := take4 b0 (by kernel_rfl)
  have t1 : takeA (4 - 0 - 1) (fun i => (fun i => x4 (i + 0)) (i + 1)) = trip 1 ((1 : Nat) : Int) 0 := take4 (shift_bytes b0 1 3 (by omega)) (by kernel_rfl)
  have t2 : takeA (4 - 2) (fun i => x4 (i + 2)) = trip 8 ((1 : Nat) : Int) 0 := take4 b2 (by kernel_rfl)
  have t3 : takeA (4 - 2 - 1) (fun i => (fun i => x4 (i + 2)) (i + 1)) = trip 2 ((1 : Nat) : Int) 0 := take4 (shift_bytes b2 1 1 (by omega)) (by kernel_rfl)
  have k0 := tk_var (by omega) b0 t0 (by omega) (by omega) (by omega) (by omega) (by decide) t1 (by omega) (by omega) (by omega)
  have k2 := tk_var (by omega) b2 t2 (by omega) (by omega) (by omega) (by omega) (by decide) t3 (by omega) (by omega) (by omega)
  exact .next 0 _ (1 + 1) _ 0 0 (by omega) k0 (.next 2 _ (1 + 1) _ 0 0 (by omega) k2 .done)

/-- What is known of the reading. -/
def orc69 : FuncId → List AV → AHeap → Option (AV × AHeap × List Nat) := fun g args H => if g = 69 then match args with
  | [.rsl false 1 n el _] => match bytesL n el with
    | some l => if l = b4 then some (.tup [rawsRow nlP raws4, i64 0, i64 0], H, []) else none
    | none => none
  | _ => none else none

theorem orc69_ok : ∀ g args H x H1 Wr, orc69 g args H = some (x, H1, Wr) → Ctr Tryz.prog g args x H H1 Wr := by
  intro g args H x H1 Wr h
  unfold orc69 at h
  split at h
  · rename_i hg
    subst hg
    split at h
    · rename_i n el own
      split at h
      · rename_i l hl
        split at h
        · rename_i hb
          subst hb
          simp only [Option.some.injEq, Prod.mk.injEq] at h
          obtain ⟨rfl, rfl, rfl⟩ := h
          have hc : Ctr Tryz.prog 69 [rowF false 4 x4] (.tup [rawsRow nlP raws4, i64 0, i64 0]) H H [] := readP_ctr (nb := false) (fun h => by cases h) (by omega) flds4 H
          obtain ⟨hn, hw⟩ := wk_bytesT (nl := false) (own := own) hl
          have hr : Wk1 (.rsl false 1 n el own) (rowF false 4 x4) := hw.trans (Wk1.row (fun i hi => rfl))
          exact hc.argsWk (.cons hr .nil)
        · cases h
      · cases h
    · cases h
  · cases h

theorem awake19_ctr (H : AHeap) : Ctr Tryz.prog 38 [] (.sc (.bool true)) H H [] := by
  have h : saysTrue (evG Tryz.prog orc69 40 38 [] []) = true := by kernel_rfl
  obtain ⟨H1, W, h1⟩ := saysTrue_ok h
  exact ctr_frame (evG_ok mixed orc69_ok 40 _ _ _ _ _ _ h1) (fun a ha => by simp at ha) H
end Go.Proofs.YtiipaliigpkfhaaGreat.Ab
