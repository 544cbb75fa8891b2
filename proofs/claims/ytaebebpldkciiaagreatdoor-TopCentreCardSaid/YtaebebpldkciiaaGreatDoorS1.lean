/- Small functions of integers and of floats. -/
import Derived.Test.YtaebebpldkciiaaGreatDoorG02
import Derived.Test.YtaebebpldkciiaaGreatDoorS0
import Derived.Deep.Cut
namespace Go.Proofs.YtaebebpldkciiaaGreatDoor
open Go.RowKit

theorem ext221 (b : Nat) (w : World) : (callFunc 221 #[.float .f64 b]).run Tryz.prog w = .ok (.value (.int .u64 b)) w := by
  rw [run_callFunc_extern Tryz.func221 (by kernel_rfl) (by kernel_rfl) (by kernel_rfl) (e := Extern.MathFloatBits.float64bits) (by kernel_rfl)]
  rfl
theorem ext222 (n : Int) (w : World) : (callFunc 222 #[.int .u64 n]).run Tryz.prog w = .ok (.value (.float .f64 n.toNat)) w := by
  rw [run_callFunc_extern Tryz.func222 (by kernel_rfl) (by kernel_rfl) (by kernel_rfl) (e := Extern.MathFloatBits.float64frombits) (by kernel_rfl)]
  rfl
/-- A double made whole, as its word. -/
def rdI (b : Nat) : Int :=
  let e := bits .and .u64 ((b : Int) / 4503599627370496) 2047
  if e < 1023 then (if e = 1022 then bits .or .u64 (bits .and .u64 (b : Int) 9223372036854775808) 4607182418800017408 else bits .and .u64 (b : Int) 9223372036854775808)
  else if e < 1075 then bits .andNot .u64 (IntKind.u64.wrap ((b : Int) + 2251799813685248 / 2 ^ (e - 1023).toNat)) (4503599627370495 / 2 ^ (e - 1023).toNat) else (b : Int)
set_option maxRecDepth 100000 in
set_option maxHeartbeats 2000000 in
theorem Round_any (b : Nat) (w : World) : Calls Tryz.prog 199 #[.float .f64 b] w fun e w' => e = .returned (.float .f64 (rdI b).toNat) ∧ w' = w := by
  have X1 := ext221 b w
  unfold rdI
  by_cases h1 : bits .and .u64 ((b : Int) / 4503599627370496) 2047 < 1023
  · rw [if_pos h1]
    by_cases h2 : bits .and .u64 ((b : Int) / 4503599627370496) 2047 = 1022
    · rw [if_pos h2]
      have X2 := ext222 (bits .or .u64 (bits .and .u64 (b : Int) 9223372036854775808) 4607182418800017408) w
      have e1 : (bits .and .u64 ((b : Int) / 4503599627370496) 2047 == 1022) = true := by simp [h2]
      clear h2
      go_enter Tryz.func199, Tryz.ntmps199
      go_wp2
      go_ret
      exact ⟨rfl, rfl⟩
    · rw [if_neg h2]
      have X2 := ext222 (bits .and .u64 (b : Int) 9223372036854775808) w
      have e1 : (bits .and .u64 ((b : Int) / 4503599627370496) 2047 == 1022) = false := by simp [h2]
      clear h2
      go_enter Tryz.func199, Tryz.ntmps199
      go_wp2
      go_ret
      exact ⟨rfl, rfl⟩
  rw [if_neg h1]
  by_cases h2 : bits .and .u64 ((b : Int) / 4503599627370496) 2047 < 1075
  · rw [if_pos h2]
    have X2 := ext222 (bits .andNot .u64 (IntKind.u64.wrap ((b : Int) + 2251799813685248 / 2 ^ (bits .and .u64 ((b : Int) / 4503599627370496) 2047 - 1023).toNat)) (4503599627370495 / 2 ^ (bits .and .u64 ((b : Int) / 4503599627370496) 2047 - 1023).toNat)) w
    go_enter Tryz.func199, Tryz.ntmps199
    go_wp2
    go_ret
    exact ⟨rfl, rfl⟩
  · rw [if_neg h2]
    have X2 := ext222 (b : Int) w
    go_enter Tryz.func199, Tryz.ntmps199
    go_wp2
    go_ret
    exact ⟨rfl, rfl⟩
end Go.Proofs.YtaebebpldkciiaaGreatDoor
