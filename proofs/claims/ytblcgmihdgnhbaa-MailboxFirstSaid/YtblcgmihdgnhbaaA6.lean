/- The walk of MailboxFirst. -/
import Derived.Test.YtblcgmihdgnhbaaA5
namespace Go.Proofs.Ytblcgmihdgnhbaa
open Go.RowKit

theorem lsOf7 (f : Nat → Int) (j : Nat) : lsOf (cq f 6) j 7 = [] := by
  unfold lsOf
  rw [List.filter_eq_nil_iff.2]
  · rfl
  · intro i _
    have := cutI_bd (n := f i) (lo := 0) (hi := 6) (by omega)
    have h : cq f 6 i ≠ 7 := by unfold cq; omega
    simp [h]

set_option maxRecDepth 100000 in
set_option maxHeartbeats 1000000 in
theorem First_any (A : Option Addr) (n c N : Nat) (f : Nat → Int) (x : Int) (w : World) (hA : Sl w w.heap.size 1 A n (fun i => [.int .i64 (f i)]))
    (hc : n ≤ c) (hcm : c ≤ maxLen) (hN : N = min n 20) :
    Calls Try.prog 3 #[.slice A n c, .int .i64 x] w fun e w' => e = .returned (.bool true) ∧ Below w.heap.size w w' := by
  unfold maxLen at hcm
  have HA := Lib.hid hA
  have hNn : min (n : Int) 20 = (N : Int) := by omega
  have tok1 : True := trivial
  clear hA
  go_enter Try.func3, Try.ntmps3
  go_wp2_with (first
    | (go_at_call 6; refine (New_ok _ _ (by omega) (by omega)).mono ?_; rintro e w2 ⟨C0, rfl, hB0, hb0⟩)
    | (go_at_call 7; refine (fact_any _).mono ?_; rintro e w3 ⟨rfl, hbf⟩))
  · obtain rfl : N = 20 := by omega
    clear hN hNn
    go_loopw [34] (fun k wr => ∃ (j : Nat) (vs : Nat → Value) (C : Array Value), j ≤ 20 ∧ k = .int .i64 j ∧ BoxAt w.heap.size 64 (j : Nat) vs (lsOf (cq f 6) j) C wr ∧ Below w.heap.size w wr) (fun k _ => 20 - (intOf k).toNat)
    case atStart =>
      exact ⟨0, fun _ => .slice none 0 0, C0, by omega, rfl, by rw [lsOf_zero]; exact hB0.below hbf, hb0.trans (hbf.mono hb0.size)⟩
    case round =>
      obtain ⟨j, vs, C, hj, rfl, hB, hbel⟩ := hrel
      have HB := Lib.hid hB
      by_cases hlt : j < 20
      · obtain ⟨b, off, rfl, hb, hr⟩ := HA.out.one (by omega)
        have o1 : wr.cell? ⟨b, off + j, none⟩ = some (.int .i64 (f j)) := (hbel.cell (p := ⟨b, off + j, none⟩) hb).trans (hr j (by omega))
        have hjN : (j : Int) < (n : Int) := by omega
        have hj0 : (0 : Int) ≤ (j : Int) := by omega
        have hjw : IntKind.i64.wrap ((j : Int) + 1) = (j : Int) + 1 := IntWalk.i64_in _ (by omega)
        have hbd := cutI_bd (n := f j) (lo := 0) (hi := 6) (by omega)
        have hp : cutI (f j) 0 6 = ((cq f 6 j : Nat) : Int) := by unfold cq; omega
        have hp8 : cq f 6 j < 7 := by unfold cq; omega
        have HP := Lib.hid hp
        clear hb0 hB0 hB
        go_wp2_with (first
          | (go_at_call 9; refine (Cut_any _ _ _ _ (by omega) (by omega) (by omega)).mono ?_; rintro e w1 ⟨rfl, rfl⟩; rw [HP.out])
          | (go_at_call 8; refine (Put_ok HB.out (cq f 6 j) (j : Int) (by omega) (by omega) (by omega) (by omega) (by have := lsOf_len (cq f 6) j (cq f 6 j); omega)).mono ?_; rintro e w2 ⟨vs', C', rfl, hB2, hb2⟩))
        go_roundw
        case rel =>
          refine ⟨j + 1, vs', C', by omega, by go_num, ?_, hbel.trans (hb2.mono (Nat.le_refl _))⟩
          rw [lsOf_succ]
          exact hB2
        case measure => simp [intOf]; omega
      · obtain rfl : j = 20 := by omega
        clear hb0 hB0 hB
        have hN7 := Lib.hid (lsOf7 f 20)
        have hcw : (((20 : Nat) : Int) + 1 - 1) = ((20 : Nat) : Int) := by omega
        go_wp2_with (first
          | (go_at_call 10; have _t := tok1; refine (Count_any HB.out).mono ?_; rintro e w3 ⟨rfl, rfl⟩; clear tok1)
          | (go_at_call 8; refine (Put_ok HB.out 7 x (by omega) (by omega) (by omega) (by omega) (by rw [hN7.out]; decide)).mono ?_; rintro e w4 ⟨vs4, C4, rfl, hB4, hb4⟩; rw [hN7.out] at hB4)
          | (go_at_call 11; refine (Get_ok hB4 7 x [] (by omega) (upd_at _ _ _) (by omega) (by omega) (by omega) (by simp)).mono ?_; rintro e w5 ⟨vs5, C5, rfl, hB5, hb5⟩; rw [hcw] at hB5)
          | (go_at_call 10; refine (Count_any hB5).mono ?_; rintro e w6 ⟨rfl, rfl⟩))
        all_goals go_ret
        all_goals (refine ⟨?_, (hbel.trans hb4).trans hb5⟩; simp)
  · obtain rfl : n = N := by omega
    clear hN hNn
    go_loopw [34] (fun k wr => ∃ (j : Nat) (vs : Nat → Value) (C : Array Value), j ≤ n ∧ k = .int .i64 j ∧ BoxAt w.heap.size 64 (j : Nat) vs (lsOf (cq f 6) j) C wr ∧ Below w.heap.size w wr) (fun k _ => n - (intOf k).toNat)
    case atStart =>
      exact ⟨0, fun _ => .slice none 0 0, C0, by omega, rfl, by rw [lsOf_zero]; exact hB0.below hbf, hb0.trans (hbf.mono hb0.size)⟩
    case round =>
      obtain ⟨j, vs, C, hj, rfl, hB, hbel⟩ := hrel
      have HB := Lib.hid hB
      by_cases hlt : j < n
      · obtain ⟨b, off, rfl, hb, hr⟩ := HA.out.one (by omega)
        have o1 : wr.cell? ⟨b, off + j, none⟩ = some (.int .i64 (f j)) := (hbel.cell (p := ⟨b, off + j, none⟩) hb).trans (hr j (by omega))
        have hjN : (j : Int) < (n : Int) := by omega
        have hj0 : (0 : Int) ≤ (j : Int) := by omega
        have hjw : IntKind.i64.wrap ((j : Int) + 1) = (j : Int) + 1 := IntWalk.i64_in _ (by omega)
        have hbd := cutI_bd (n := f j) (lo := 0) (hi := 6) (by omega)
        have hp : cutI (f j) 0 6 = ((cq f 6 j : Nat) : Int) := by unfold cq; omega
        have hp8 : cq f 6 j < 7 := by unfold cq; omega
        have HP := Lib.hid hp
        clear hb0 hB0 hB
        go_wp2_with (first
          | (go_at_call 9; refine (Cut_any _ _ _ _ (by omega) (by omega) (by omega)).mono ?_; rintro e w1 ⟨rfl, rfl⟩; rw [HP.out])
          | (go_at_call 8; refine (Put_ok HB.out (cq f 6 j) (j : Int) (by omega) (by omega) (by omega) (by omega) (by have := lsOf_len (cq f 6) j (cq f 6 j); omega)).mono ?_; rintro e w2 ⟨vs', C', rfl, hB2, hb2⟩))
        go_roundw
        case rel =>
          refine ⟨j + 1, vs', C', by omega, by go_num, ?_, hbel.trans (hb2.mono (Nat.le_refl _))⟩
          rw [lsOf_succ]
          exact hB2
        case measure => simp [intOf]; omega
      · obtain rfl : n = j := by omega
        clear hb0 hB0 hB
        have hN7 := Lib.hid (lsOf7 f n)
        have hcw : (((n : Nat) : Int) + 1 - 1) = ((n : Nat) : Int) := by omega
        go_wp2_with (first
          | (go_at_call 10; have _t := tok1; refine (Count_any HB.out).mono ?_; rintro e w3 ⟨rfl, rfl⟩; clear tok1)
          | (go_at_call 8; refine (Put_ok HB.out 7 x (by omega) (by omega) (by omega) (by omega) (by rw [hN7.out]; decide)).mono ?_; rintro e w4 ⟨vs4, C4, rfl, hB4, hb4⟩; rw [hN7.out] at hB4)
          | (go_at_call 11; refine (Get_ok hB4 7 x [] (by omega) (upd_at _ _ _) (by omega) (by omega) (by omega) (by simp)).mono ?_; rintro e w5 ⟨vs5, C5, rfl, hB5, hb5⟩; rw [hcw] at hB5)
          | (go_at_call 10; refine (Count_any hB5).mono ?_; rintro e w6 ⟨rfl, rfl⟩))
        all_goals go_ret
        all_goals (refine ⟨?_, (hbel.trans hb4).trans hb5⟩; simp)
end Go.Proofs.Ytblcgmihdgnhbaa
