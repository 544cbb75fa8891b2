/- Package screen: far, slices.Equal of cells, Line. -/
import Derived.Test.YtlkdjnmehnibmaaA7
import Derived.Test.YtlkdjnmehnibmaaFlat
import Derived.BigQuiet
import Derived.Deep.QuietTactic
namespace Go.Proofs.Ytlkdjnmehnibmaa
open Go.RowKit

def farB (x y : Int) : Bool := decide (x < -2000) || decide (2000 < x) || decide (y < -2000) || decide (2000 < y)
theorem far_in {x y : Int} (h : farB x y = false) : -2000 ≤ x ∧ x ≤ 2000 ∧ -2000 ≤ y ∧ y ≤ 2000 := by
  unfold farB at h
  simp only [Bool.or_eq_false_iff, decide_eq_false_iff_not] at h
  omega
set_option maxHeartbeats 2000000 in
theorem far_any (x y : Int) (w : World) : Calls Try.prog 27 #[.agg #[.int .i64 x, .int .i64 y]] w fun e w' => e = .returned (.bool (farB x y)) ∧ Below w.heap.size w w' := by
  go_enter Try.func27, Try.ntmps27
  go_wp2
  all_goals
    go_ret
    refine ⟨?_, (Below.refl _ w).alloc (Nat.le_refl _) _⟩
    first
      | rfl
      | (rw [show farB x y = true from by unfold farB; simp only [Bool.or_eq_true, decide_eq_true_eq]; omega]; rfl)
      | (rw [show farB x y = true from by unfold farB; simp_all]; rfl)

set_option maxRecDepth 100000 in
set_option maxHeartbeats 2000000 in
theorem EqualC (A B : Option Addr) (f : Nat → Int × Int) (n c d N : Nat) (w : World) (hA : Sl w N 2 A n (ptRow f)) (hB : Sl w N 2 B n (ptRow f)) (hn : n ≤ 10000) :
    Calls Try.prog 16 #[.slice A n c, .slice B n d] w fun e w' => e = .returned (.bool true) ∧ ∃ q, w' = w.drewN q := by
  have HA := Lib.hid hA
  have HB := Lib.hid hB
  clear hA hB
  go_enter Try.func16, Try.ntmps16
  go_wp2
  go_loopw [13] (fun k wr => ∃ j : Nat, j ≤ n ∧ k = .int .i64 j ∧ ∃ q, wr = w.drewN q) (fun k _ => n - (intOf k).toNat)
  case atStart => exact ⟨0, by omega, rfl, 0, rfl⟩
  case round =>
    obtain ⟨j, hj, rfl, q, rfl⟩ := hrel
    by_cases hlt : j < n
    · obtain ⟨b, off, rfl, hb, hc⟩ := pt_cells HA.out (by omega)
      obtain ⟨b2, off2, rfl, hb2, hc2⟩ := pt_cells HB.out (by omega)
      obtain ⟨c1, c2⟩ := hc j hlt
      obtain ⟨c3, c4⟩ := hc2 j hlt
      clear hc hc2
      generalize (f j).1 = x at *
      generalize (f j).2 = y at *
      have l1 : (j : Int) < (n : Int) := by omega
      have l0 : (0 : Int) ≤ (j : Int) := by omega
      go_wp2
      go_quiet (fail)
      go_wp2
      go_roundw
      case rel => exact ⟨j + 1, by omega, by go_num, _, rfl⟩
      case measure => simp [intOf]; omega
    · go_wp2
      go_ret
      exact ⟨rfl, q, rfl⟩

def lnN (dx dy : Int) : Int := max (max (max dx (-dx)) dy) (-dy)
theorem run_max4 {P : Program} (w : World) (ts : Array TypeId) (t : TypeId) (a b c d : Int) :
    (Builtin.max_ ts t #[.int .i64 a, .int .i64 b, .int .i64 c, .int .i64 d]).run P w = .ok (.int .i64 (max (max (max a b) c) d)) w := by
  have e (x y : Int) : (if y > x then y else x) = max x y := by
    rw [Int.max_def]
    split <;> split <;> omega
  simp [Builtin.max_, Builtin.max2, e]
end Go.Proofs.Ytlkdjnmehnibmaa
