/- The contract of Cut. -/
import Derived.Test.YtjmdebeffpdpcaaGreatDoorMem
namespace Go.Proofs.YtjmdebeffpdpcaaGreatDoor
open Go.RowKit

def cutI (n lo hi : Int) : Int := lo + n.emod (hi - lo + 1)

theorem cutI_bd {n lo hi : Int} (h : lo ≤ hi) : lo ≤ cutI n lo hi ∧ cutI n lo hi ≤ hi := by
  unfold cutI
  have h1 := Int.emod_nonneg n (show hi - lo + 1 ≠ 0 by omega)
  have h2 := Int.emod_lt_of_pos n (show 0 < hi - lo + 1 by omega)
  show lo ≤ lo + n % (hi - lo + 1) ∧ lo + n % (hi - lo + 1) ≤ hi
  omega

theorem tmod_neg_case {n m : Int} (hm : 0 < m) (h : n.tmod m < 0) : n.tmod m + m = n % m := by
  have h1 := Int.emod_nonneg n (show m ≠ 0 by omega)
  have h2 := Int.emod_lt_of_pos n hm
  rw [Int.tmod_eq_emod] at *
  split at h <;> split <;> omega

theorem tmod_pos_case {n m : Int} (hm : 0 < m) (h : 0 ≤ n.tmod m) : n.tmod m = n % m := by
  have h1 := Int.emod_nonneg n (show m ≠ 0 by omega)
  have h2 := Int.emod_lt_of_pos n hm
  rw [Int.tmod_eq_emod] at *
  split at h <;> split <;> omega

set_option maxHeartbeats 400000 in
theorem Cut_any (n lo hi : Int) (w : World) (h1 : -1000000 ≤ lo) (h2 : lo ≤ hi) (h3 : hi ≤ 1000000) :
    Calls Tryz.prog 8 #[.int .i64 n, .int .i64 lo, .int .i64 hi] w fun e w' => e = .returned (.int .i64 (cutI n lo hi)) ∧ w = w' := by
  have hb1 := Int.emod_nonneg n (show hi - lo + 1 ≠ 0 by omega)
  have hb2 := Int.emod_lt_of_pos n (show 0 < hi - lo + 1 by omega)
  have hm : 0 < hi - lo + 1 := by omega
  by_cases hn : n.tmod (hi - lo + 1) < 0
  · have e := tmod_neg_case hm hn
    have g1 : 0 ≤ n.tmod (hi - lo + 1) + (hi - lo + 1) := by omega
    have g2 : n.tmod (hi - lo + 1) + (hi - lo + 1) < 2000002 := by omega
    have H := Lib.hid e
    clear e hb1 hb2
    go_enter Tryz.func8, Tryz.ntmps8
    go_wp2
    go_ret
    exact ⟨ret_int (by rw [H.out]; rfl), rfl⟩
  · have e := tmod_pos_case (n := n) hm (by omega)
    have g1 : 0 ≤ n.tmod (hi - lo + 1) := by omega
    have g2 : n.tmod (hi - lo + 1) < 2000002 := by omega
    have H := Lib.hid e
    clear e hb1 hb2
    go_enter Tryz.func8, Tryz.ntmps8
    go_wp2
    go_ret
    exact ⟨ret_int (by rw [H.out]; rfl), rfl⟩
end Go.Proofs.YtjmdebeffpdpcaaGreatDoor
