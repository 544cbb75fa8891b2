/- Package volume: Check. -/
import Derived.Test.YtdmecagdjbjgjaaR6
namespace Go.Proofs.Ytdmecagdjbjgjaa
open Go.RowKit

def volE (F : Nat → Int × Int) (n : Nat) (lo hi : Int) : Int := if polyE F n ≠ 0 then polyE F n else if lo < 0 ∨ 60001 < hi ∨ hi ≤ lo then 4 else 0
set_option maxRecDepth 100000 in
set_option maxHeartbeats 8000000 in
theorem volCheck_any (A : Option Addr) (n c : Nat) (F : Nat → Int × Int) (lo hi : Int) (w : World) (hS : Sl w w.heap.size 2 A n (ptRow F)) :
    Calls Try.prog 26 #[.agg #[.slice A n c, .int .i64 lo, .int .i64 hi]] w fun E w' => E = .returned (.int .i64 (volE F n lo hi)) ∧ Below w.heap.size w w' := by
  have HP := Lib.hid (fun W (hW : Below w.heap.size w W) => polyCheck_any A n c F W ((hS.below hW).more hW.size))
  have HR : Hid (volE F n lo hi = if polyE F n ≠ 0 then polyE F n else if lo < 0 ∨ 60001 < hi ∨ hi ≤ lo then 4 else 0) := Lib.hid rfl
  generalize volE F n lo hi = r at *
  generalize polyE F n = p at *
  clear hS
  obtain ⟨w1, hw1⟩ : ∃ W, w.alloc (.cells #[.slice A n c, .int .i64 lo, .int .i64 hi] 79) = W := ⟨_, rfl⟩
  have hb1 : Below w.heap.size w w1 := by rw [← hw1]; exact (Below.refl _ _).alloc (Nat.le_refl _) _
  have hy : w1.heap[w.heap.size]? = some (.cells #[.slice A n c, .int .i64 lo, .int .i64 hi] 79 (0, 0)) := by rw [← hw1]; exact heap_alloc_new _ _
  have hl : w.heap.size < w1.heap.size := by rw [← hw1]; simp
  have c0 : w1.cell? ⟨w.heap.size, 0, none⟩ = some (.slice A n c) := cell_of_row w1 _ 0 _ 79 (0, 0) hy
  have c1 : w1.cell? ⟨w.heap.size, 1, none⟩ = some (.int .i64 lo) := cell_of_row w1 _ 1 _ 79 (0, 0) hy
  have c2 : w1.cell? ⟨w.heap.size, 2, none⟩ = some (.int .i64 hi) := cell_of_row w1 _ 2 _ 79 (0, 0) hy
  have HB1 := Lib.hid hb1
  clear hb1 hy
  obtain ⟨g, hg⟩ : ∃ g, w.heap.size = g := ⟨_, rfl⟩
  have HG := Lib.hid hg
  rw [hg] at c0 c1 c2 hl
  by_cases hp : p = 0
  · subst hp
    have HR2 : Hid (r = if lo < 0 ∨ 60001 < hi ∨ hi ≤ lo then 4 else 0) := Lib.hid HR.out
    clear HR
    go_enter Try.func26, Try.ntmps26
    go_wp2_with (go_at_call 43; go_loud (refine (HP.out _ HB1.out).mono ?_; rintro E w2 ⟨rfl, hb2⟩; have d1 := (hb2.cell (p := ⟨g, 1, none⟩) hl).trans c1; have d2 := (hb2.cell (p := ⟨g, 2, none⟩) hl).trans c2; have HB2 := Lib.hid (HB1.out.trans (hb2.mono HB1.out.size)); clear hb2))
    all_goals
      go_ret
      refine ⟨?_, by first | exact HB2.out | (rw [← HG.out]; exact HB2.out)⟩
      rw [HR2.out]
      first
        | (rw [if_pos (by omega)]; done)
        | (rw [if_neg (by omega)]; done)
        | (rw [if_pos (by omega)]; rfl)
        | (rw [if_neg (by omega)]; rfl)
  · have hpd : (p == 0) = false := beq_eq_false_iff_ne.2 hp
    have hpe : (p != 0) = true := bne_iff_ne.2 hp
    have HR2 : Hid (r = p) := Lib.hid (by rw [HR.out, if_pos hp])
    clear HR
    go_enter Try.func26, Try.ntmps26
    go_wp2_with (go_at_call 43; go_loud (refine (HP.out _ HB1.out).mono ?_; rintro E w2 ⟨rfl, hb2⟩; have HB2 := Lib.hid (HB1.out.trans (hb2.mono HB1.out.size)); clear hb2))
    all_goals
      go_ret
      exact ⟨by first | (rw [HR2.out]; done) | (rw [HR2.out]; rfl), by first | exact HB2.out | (rw [← HG.out]; exact HB2.out)⟩
end Go.Proofs.Ytdmecagdjbjgjaa
