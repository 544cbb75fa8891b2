/- The rule low. -/
import Derived.Test.YtdmecagdjbjgjaaR17
import Derived.Test.YtdmecagdjbjgjaaR8
namespace Go.Proofs.Ytdmecagdjbjgjaa
open Go.RowKit

theorem low1_any (s : Sc) (x : Tr) (p : Nat) (h : Int) (W : World) (hp : W.cell? ⟨p, 0, none⟩ = some (.int .i64 h)) :
    Calls Try.prog 41 #[s.val, trV x, .pointer (some ⟨p, 0, none⟩)] W fun e w' => e = .returned (.bool (decide (x.h < h))) ∧ Below W.heap.size W w' := by
  have hpl : p < W.heap.size := World.block_lt_of_cell? W ⟨p, 0, none⟩ hp
  have hne1 : p ≠ W.heap.size := by omega
  have hne2 : p ≠ W.heap.size + 1 := by omega
  unfold Sc.val trV
  go_enter Try.func41, Try.ntmps41
  go_wp2
  go_ret
  exact ⟨rfl, ((Below.refl _ W).alloc (Nat.le_refl _) _).alloc (by simp) _⟩

theorem one_any (t : ByteArray) (lv : Int) (f : Fn) (a b : Array Value) (w : World) : Calls Try.prog 40 #[.string t, .int .i64 lv, .func f a b] w fun e w' => e = .returned (.iface 113 (.agg #[.string t, .int .i64 lv, .func f a b])) ∧ w = w' := by
  go_enter Try.func40, Try.ntmps40
  go_wp2
  go_ret
  exact ⟨rfl, rfl⟩

set_option maxHeartbeats 4000000 in
theorem Low_any (h lv : Int) (w : World) (hh : 0 ≤ h ∧ h ≤ 60000) (hl : 0 ≤ lv ∧ lv ≤ 9) :
    Calls Try.prog 22 #[.int .i64 h, .int .i64 lv] w fun e w' => (e = .returned (.tuple #[.iface 113 (.agg #[.string ⟨#[108, 111, 119]⟩, .int .i64 lv, .func (.func 41) #[] #[.pointer (some ⟨w.heap.size, 0, none⟩)]]), .int .i64 0]) ∧ w'.cell? ⟨w.heap.size, 0, none⟩ = some (.int .i64 h) ∧ w.heap.size < w'.heap.size) ∧ Below w.heap.size w w' := by
  have HW := Lib.hid (fun W => wrong_any lv W)
  rw [show (decide (lv < 0) || decide ((9 : Int) < lv)) = false by simp; omega] at HW
  have t1 : decide (h < 0) = false := decide_eq_false (by omega)
  have t2 : decide ((60000 : Int) < h) = false := decide_eq_false (by omega)
  have HO := Lib.hid (fun t f a b W => one_any t lv f a b W)
  clear hh hl
  go_enter Try.func22, Try.ntmps22
  go_wp2_with (first
    | (go_at_call 20; go_loud (refine (HW.out _).mono ?_; rintro E w2 ⟨rfl, rfl⟩))
    | (go_at_call 40; go_loud (refine (HO.out _ _ _ _ _).mono ?_; rintro E w2 ⟨rfl, rfl⟩)))
  go_ret2
  exact ⟨⟨rfl, by simp, by simp⟩, (Below.refl _ w).alloc (Nat.le_refl _) _⟩
end Go.Proofs.Ytdmecagdjbjgjaa
