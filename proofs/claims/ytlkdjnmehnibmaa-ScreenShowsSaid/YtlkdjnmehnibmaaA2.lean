/- Packages num, plane, screen: DivDown, Check, cell, visible, Cell. -/
import Derived.Test.YtlkdjnmehnibmaaA1
namespace Go.Proofs.Ytlkdjnmehnibmaa
open Go.RowKit

theorem dvd_of_tmod {a b : Int} (h : a.tmod b = 0) : b ∣ a := Int.dvd_of_tmod_eq_zero h
theorem tdiv_neg_yes {a b : Int} (hb : 0 < b) (h : a.tmod b = 0) : a.tdiv b = a / b := by
  obtain ⟨k, rfl⟩ := dvd_of_tmod h
  rw [Int.mul_tdiv_cancel_left _ (by omega), Int.mul_ediv_cancel_left _ (by omega)]
theorem tdiv_neg_no {a b : Int} (hb : 0 < b) (ha : a < 0) (h : a.tmod b ≠ 0) : a.tdiv b - 1 = a / b := by
  have h1 := Int.tmod_add_tdiv_mul a b
  have h2 := Int.emod_add_mul_ediv a b
  have h3 := Int.emod_nonneg a (show b ≠ 0 by omega)
  have h4 := Int.emod_lt_of_pos a hb
  have h5 : a.tmod b = a % b - b := by
    rw [Int.tmod_eq_emod]
    have hn : ¬ (0 ≤ a ∨ b ∣ a) := by
      rintro (h' | h')
      · omega
      · exact h (Int.tmod_eq_zero_of_dvd h')
    rw [if_neg hn]
    omega
  rw [h5] at h1
  have h6 : a.tdiv b * b = (a / b + 1) * b := by
    rw [Int.add_mul, Int.one_mul, Int.mul_comm (a / b) b]
    omega
  have := Int.eq_of_mul_eq_mul_right (show b ≠ 0 by omega) h6
  omega
set_option maxHeartbeats 1000000 in
theorem DivDown_any (a b : Int) (w : World) (h1 : -1000000000000 ≤ a) (h2 : a ≤ 1000000000000) (h3 : 1 ≤ b) (h4 : b ≤ 1000000000000) :
    Calls Try.prog 28 #[.int .i64 a, .int .i64 b] w fun e w' => e = .returned (.tuple #[.int .i64 (a / b), .int .i64 0]) ∧ w = w' := by
  have hb0 : (b == 0) = false := beq_eq_false_iff_ne.2 (by omega)
  have hb1 : decide (b < 0) = false := decide_eq_false (by omega)
  have ha1 : (a == -9223372036854775808) = false := beq_eq_false_iff_ne.2 (by omega)
  by_cases ha : 0 ≤ a
  · have hn : decide (a < 0) = false := decide_eq_false (by omega)
    go_enter Try.func28, Try.ntmps28
    go_wp2
    all_goals
      go_ret2
      exact ⟨rfl, rfl⟩
  · have hn : decide (a < 0) = true := decide_eq_true (by omega)
    by_cases hm : a.tmod b = 0
    · have hq := tdiv_neg_yes (by omega) hm
      have HQ := Lib.hid hq
      have hm' : (a.tmod b != 0) = false := by simp [hm]
      have HM := Lib.hid hm
      clear hm hq
      go_enter Try.func28, Try.ntmps28
      go_wp2
      go_ret2
      exact ⟨by rw [← HQ.out]; rfl, rfl⟩
    · have hq := tdiv_neg_no (by omega) (by omega) hm
      have hlo : a ≤ a / b := by
        rw [Int.le_ediv_iff_mul_le (by omega)]
        have := Int.mul_le_mul_of_nonpos_left (a := a) (show a ≤ 0 by omega) (show (1 : Int) ≤ b by omega)
        omega
      have hhi : a / b < 0 := Int.ediv_neg_of_neg_of_pos (by omega) (by omega)
      have t1 : -1000000000000 ≤ a.tdiv b := by omega
      have t2 : a.tdiv b ≤ 0 := by omega
      have hw : IntKind.i64.wrap (a.tdiv b - 1) = a.tdiv b - 1 := IntWalk.i64_in _ (by omega)
      have HQ := Lib.hid hq
      have hm' : (a.tmod b != 0) = true := by simp [hm]
      have HM := Lib.hid hm
      clear hm hq hlo hhi
      go_enter Try.func28, Try.ntmps28
      go_wp2
      go_ret2
      exact ⟨by rw [← HQ.out]; rfl, rfl⟩

/-- A view, a point, a cell. -/
def viewV (cx cy sc wd ht : Int) : Value := .agg #[.int .i64 cx, .int .i64 cy, .int .i64 sc, .int .i64 wd, .int .i64 ht]
def ptV (x y : Int) : Value := .agg #[.int .i64 x, .int .i64 y]

set_option maxHeartbeats 1000000 in
theorem PCheck_ok (x y : Int) (w : World) (h1 : -1000000 ≤ x) (h2 : x ≤ 1000000) (h3 : -1000000 ≤ y) (h4 : y ≤ 1000000) :
    Calls Try.prog 22 #[.agg #[.int .i64 x, .int .i64 y]] w fun e w' => e = .returned (.int .i64 0) ∧ Below w.heap.size w w' := by
  have d1 : decide (x < -1000000) = false := decide_eq_false (by omega)
  have d2 : decide (1000000 < x) = false := decide_eq_false (by omega)
  have d3 : decide (y < -1000000) = false := decide_eq_false (by omega)
  have d4 : decide (1000000 < y) = false := decide_eq_false (by omega)
  go_enter Try.func22, Try.ntmps22
  go_wp2
  go_ret
  exact ⟨rfl, (Below.refl _ _).alloc (Nat.le_refl _) _⟩

/-- What Check says of a view whose center and scale are good. -/
def sideE (wd ht : Int) : Int := if 1 ≤ wd ∧ wd ≤ 60 ∧ 1 ≤ ht ∧ ht ≤ 60 then 0 else 4
set_option maxRecDepth 100000 in
set_option maxHeartbeats 4000000 in
theorem Check_ok (cx cy sc wd ht : Int) (w : World) (h1 : -1000000 ≤ cx) (h2 : cx ≤ 1000000) (h3 : -1000000 ≤ cy) (h4 : cy ≤ 1000000) (h5 : 1 ≤ sc) (h6 : sc ≤ 50000) :
    Calls Try.prog 21 #[.agg #[.int .i64 cx, .int .i64 cy, .int .i64 sc, .int .i64 wd, .int .i64 ht]] w fun e w' => e = .returned (.int .i64 (sideE wd ht)) ∧ Below w.heap.size w w' := by
  have d1 : decide (sc < 1) = false := decide_eq_false (by omega)
  have d2 : decide (50000 < sc) = false := decide_eq_false (by omega)
  have hP := fun (W : World) => PCheck_ok cx cy W h1 h2 h3 h4
  have HP := Lib.hid hP
  have HE : Hid (sideE wd ht = if 1 ≤ wd ∧ wd ≤ 60 ∧ 1 ≤ ht ∧ ht ≤ 60 then 0 else 4) := Lib.hid rfl
  generalize sideE wd ht = r at *
  clear hP
  go_enter Try.func21, Try.ntmps21
  go_wp2_with (go_at_call 22; go_loud (refine (HP.out _).mono ?_; rintro e w1 ⟨rfl, hb1⟩; obtain ⟨hc1, hf1⟩ := bcell hb1; have hz1 := hb1.size; simp at hz1))
  all_goals
    go_ret
    refine ⟨?_, ((Below.refl _ w).alloc (Nat.le_refl _) _).trans (hb1.mono (by simp))⟩
    rw [HE.out]
    split
    all_goals first
      | rfl
      | (exfalso; omega)

def visB (wd ht x y : Int) : Bool := decide (0 ≤ x ∧ x < wd ∧ 0 ≤ y ∧ y < ht)
set_option maxHeartbeats 2000000 in
theorem visible_any (cx cy sc wd ht x y : Int) (w : World) :
    Calls Try.prog 24 #[.agg #[.int .i64 cx, .int .i64 cy, .int .i64 sc, .int .i64 wd, .int .i64 ht], .agg #[.int .i64 x, .int .i64 y]] w fun e w' => e = .returned (.bool (visB wd ht x y)) ∧ Below w.heap.size w w' := by
  have HE : Hid (visB wd ht x y = decide (0 ≤ x ∧ x < wd ∧ 0 ≤ y ∧ y < ht)) := Lib.hid rfl
  generalize visB wd ht x y = r at *
  go_enter Try.func24, Try.ntmps24
  go_wp2
  all_goals
    go_ret
    refine ⟨?_, ((Below.refl _ w).alloc (Nat.le_refl _) _).alloc (by simp) _⟩
    rw [HE.out]
    first
      | (rw [show decide (0 ≤ x ∧ x < wd ∧ 0 ≤ y ∧ y < ht) = decide (y < ht) from decide_eq_decide.2 ⟨fun h => h.2.2.2, fun h => ⟨by omega, by omega, by omega, h⟩⟩]; rfl)
      | (rw [show decide (0 ≤ x ∧ x < wd ∧ 0 ≤ y ∧ y < ht) = true from decide_eq_true (by omega)]; rfl)
      | (rw [show decide (0 ≤ x ∧ x < wd ∧ 0 ≤ y ∧ y < ht) = false from decide_eq_false (by omega)]; rfl)

set_option maxRecDepth 100000 in
set_option maxHeartbeats 4000000 in
theorem cell_any (cx cy sc wd ht x y : Int) (w : World) (h1 : -1000000000 ≤ x - cx ∧ x - cx ≤ 1000000000) (h2 : -1000000000 ≤ y - cy ∧ y - cy ≤ 1000000000) (h3 : 1 ≤ sc ∧ sc ≤ 50000) (h4 : 0 ≤ wd ∧ wd ≤ 60) (h5 : 0 ≤ ht ∧ ht ≤ 60) :
    Calls Try.prog 23 #[.agg #[.int .i64 cx, .int .i64 cy, .int .i64 sc, .int .i64 wd, .int .i64 ht], .agg #[.int .i64 x, .int .i64 y]] w fun e w' => e = .returned (.agg #[.int .i64 ((x - cx) / sc + wd / 2), .int .i64 ((y - cy) / sc + ht / 2)]) ∧ Below w.heap.size w w' := by
  have D1 := Lib.hid (fun W => DivDown_any (x - cx) sc W (by omega) (by omega) (by omega) (by omega))
  have D2 := Lib.hid (fun W => DivDown_any (y - cy) sc W (by omega) (by omega) (by omega) (by omega))
  have b1 : -1000000000 ≤ (x - cx) / sc ∧ (x - cx) / sc ≤ 1000000000 := by
    constructor
    · rw [Int.le_ediv_iff_mul_le (by omega)]; omega
    · exact Int.ediv_le_of_le_mul (by omega) (by omega)
  have b2 : -1000000000 ≤ (y - cy) / sc ∧ (y - cy) / sc ≤ 1000000000 := by
    constructor
    · rw [Int.le_ediv_iff_mul_le (by omega)]; omega
    · exact Int.ediv_le_of_le_mul (by omega) (by omega)
  have w1 : IntKind.i64.wrap (x - cx) = x - cx := IntWalk.i64_in _ (by omega)
  have w2 : IntKind.i64.wrap (y - cy) = y - cy := IntWalk.i64_in _ (by omega)
  generalize (x - cx) / sc = q1 at *
  generalize (y - cy) / sc = q2 at *
  have w3 : IntKind.i64.wrap (q1 + wd / 2) = q1 + wd / 2 := IntWalk.i64_in _ (by omega)
  have w4 : IntKind.i64.wrap (q2 + ht / 2) = q2 + ht / 2 := IntWalk.i64_in _ (by omega)
  go_enter Try.func23, Try.ntmps23
  have tok1 : True := trivial
  clear h1 h2 h3
  go_wp2_with (first
    | (go_at_call 28; have _t := tok1; go_loud ((with_reducible refine (D1.out _).mono ?_); rintro e w5 ⟨rfl, rfl⟩; clear tok1))
    | (go_at_call 28; go_loud ((with_reducible refine (D2.out _).mono ?_); rintro e w5 ⟨rfl, rfl⟩)))
  refine bodyPost_ret (v := .agg #[.int .i64 (q1 + wd / 2), .int .i64 (q2 + ht / 2)]) (by simp [results, Try.results23, go_sem]) rfl ⟨rfl, ?_⟩
  exact (((Below.refl _ w).alloc (Nat.le_refl _) _).alloc (by simp) _).alloc (by simp; omega) _
end Go.Proofs.Ytlkdjnmehnibmaa
