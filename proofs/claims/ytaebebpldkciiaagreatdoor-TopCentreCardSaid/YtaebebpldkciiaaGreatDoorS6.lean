/- Packages plane and num: Add, Within, Between. -/
import Derived.Test.YtaebebpldkciiaaGreatDoorS5
namespace Go.Proofs.YtaebebpldkciiaaGreatDoor
open Go.RowKit

set_option maxRecDepth 100000 in
theorem Add_any (a b c d : Int) (w : World) (h1 : Bd 1000000000 a) (h2 : Bd 1000000000 b) (h3 : Bd 1000000000 c) (h4 : Bd 1000000000 d) : Calls Tryz.prog 120 #[.agg #[.int .i64 a, .int .i64 b], .agg #[.int .i64 c, .int .i64 d]] w fun e w' => e = .returned (.agg #[.int .i64 (a + c), .int .i64 (b + d)]) ∧ Below w.heap.size w w' := by
  have e1 : IntKind.i64.wrap (a + c) = a + c := IntWalk.i64_in _ (by obtain ⟨_, _⟩ := h1; obtain ⟨_, _⟩ := h3; omega)
  have e2 : IntKind.i64.wrap (b + d) = b + d := IntWalk.i64_in _ (by obtain ⟨_, _⟩ := h2; obtain ⟨_, _⟩ := h4; omega)
  clear h1 h2 h3 h4
  go_enter Tryz.func120, Tryz.ntmps120
  go_wp2
  refine bodyPost_ret (results_cell_row rfl _ _ (w.heap.size + 1 + 1) 48 #[.int .i64 (a + c), .int .i64 (b + d)] (0, 0) _ rfl ?_ Tryz.underlying48 rfl (by kernel_rfl)) rfl ⟨rfl, ?_⟩
  · rw [show w.heap.size + 1 + 1 = ((w.alloc (.cells #[.int .i64 a, .int .i64 b] 48)).alloc (.cells #[.int .i64 c, .int .i64 d] 48)).heap.size by rw [size_al, size_al]]
    exact heap_alloc_new _ _
  · exact (((Below.refl _ _).alloc (Nat.le_refl _) _).alloc (by simp) _).alloc (by simp; omega) _
set_option maxRecDepth 100000 in
theorem Between_any (n : Int) (w : World) : Calls Tryz.prog 122 #[.int .i64 n, .int .i64 0, .int .i64 60000] w fun e w' => e = .returned (.int .i64 (if n < 0 then 0 else if 60000 < n then 60000 else n)) ∧ w' = w := by
  by_cases h1 : n < 0
  · rw [if_pos h1]
    go_enter Tryz.func122, Tryz.ntmps122
    go_wp2
    go_ret
    exact ⟨rfl, rfl⟩
  rw [if_neg h1]
  by_cases h2 : 60000 < n
  · rw [if_pos h2]
    go_enter Tryz.func122, Tryz.ntmps122
    go_wp2
    go_ret
    exact ⟨rfl, rfl⟩
  rw [if_neg h2]
  go_enter Tryz.func122, Tryz.ntmps122
  go_wp2
  go_ret
  exact ⟨rfl, rfl⟩
set_option maxRecDepth 100000 in
theorem Within_any (a b c d r : Int) (w : World) (h1 : Bd 1000000 a) (h2 : Bd 1000000 b) (h3 : Bd 1000000 c) (h4 : Bd 1000000 d) (hr0 : 0 ≤ r) (hr1 : r ≤ 1000000) : Calls Tryz.prog 121 #[.agg #[.int .i64 a, .int .i64 b], .agg #[.int .i64 c, .int .i64 d], .int .i64 r] w fun e w' => e = .returned (.bool (decide (sqI a b c d ≤ r * r))) ∧ Below w.heap.size w w' := by
  have HS := Lib.hid (fun W => Square_any a b c d W h1 h2 h3 h4)
  have e1 : IntKind.i64.wrap (r * r) = r * r := IntWalk.i64_in _ (by
    have k1 : r * r ≤ 1000000 * r := Int.mul_le_mul_of_nonneg_right hr1 hr0
    have k2 : 0 ≤ r * r := Int.mul_nonneg hr0 hr0
    omega)
  have e2 : r ≤ 8000000 := by omega
  generalize sqI a b c d = q at HS
  clear h1 h2 h3 h4 hr1
  go_enter Tryz.func121, Tryz.ntmps121
  go_wp2_with (go_at_call 75; go_loud (refine (HS.out _).mono ?_; rintro e w1 ⟨rfl, hb1⟩; have HB1 := Lib.hid ((((Below.refl _ w).alloc (Nat.le_refl _) _).alloc (by simp) _).trans (hb1.mono (by simp; omega))); clear hb1))
  go_ret
  exact ⟨rfl, HB1.out⟩
end Go.Proofs.YtaebebpldkciiaaGreatDoor
