/- boxOf, mailboxFact. -/
import Derived.Test.YtblcgmihdgnhbaaA3
namespace Go.Proofs.Ytblcgmihdgnhbaa
open Go.RowKit

/-- What lies in list p when j messages have been put, message i at priority q i. -/
def lsOf (q : Nat → Nat) (j p : Nat) : List Int := ((List.range j).filter (fun i => q i == p)).map (fun i : Nat => (i : Int))

theorem lsOf_len (q : Nat → Nat) (j p : Nat) : (lsOf q j p).length ≤ j := by
  have := List.length_filter_le (fun i => q i == p) (List.range j)
  simpa [lsOf] using this

theorem lsOf_succ (q : Nat → Nat) (j : Nat) : lsOf q (j + 1) = upd (lsOf q j) (q j) (lsOf q j (q j) ++ [(j : Int)]) := by
  funext p
  by_cases e : p = q j
  · subst e
    rw [upd_at]
    simp [lsOf, List.range_succ]
  · rw [upd_ne _ _ e]
    have e' : ¬ q j = p := fun x => e x.symm
    simp [lsOf, List.range_succ, e']

theorem lsOf_zero (q : Nat → Nat) : lsOf q 0 = fun _ => [] := by funext p; simp [lsOf]

def cq (f : Nat → Int) (hi : Int) (i : Nat) : Nat := (cutI (f i) 0 hi).toNat

set_option maxRecDepth 100000 in
set_option maxHeartbeats 2000000 in
theorem boxOf_any (size : Int) (A : Option Addr) (n c N s : Nat) (f : Nat → Int) (w : World) (hA : Sl w w.heap.size 1 A n (fun i => [.int .i64 (f i)]))
    (hc : n ≤ c) (hcm : c ≤ maxLen) (hN : N = min n 12) (hs : cutI size 1 12 = (s : Int)) (hs1 : 1 ≤ s) (hs2 : s ≤ 12) :
    Calls Try.prog 12 #[.int .i64 size, .slice A n c] w fun e w' => ∃ vs C, e = .returned (.pointer (some ⟨w.heap.size, 0, none⟩)) ∧ BoxAt w.heap.size s (min N s : Nat) vs (lsOf (cq f 7) (min N s)) C w' ∧ Below w.heap.size w w' := by
  unfold maxLen at hcm
  have HA := Lib.hid hA
  have hNn : min (n : Int) 12 = (N : Int) := by omega
  clear hA
  go_enter Try.func12, Try.ntmps12
  go_wp2_with (first
    | (go_at_call 9; refine (Cut_any _ _ _ _ (by omega) (by omega) (by omega)).mono ?_; rintro e w1 ⟨rfl, rfl⟩; rw [hs])
    | (go_at_call 6; refine (New_ok _ _ (by omega) (by omega)).mono ?_; rintro e w2 ⟨C0, rfl, hB0, hb0⟩))
  · obtain rfl : N = 12 := by omega
    clear hN hNn
    go_loopw [27] (fun k wr => ∃ (j : Nat) (vs : Nat → Value) (C : Array Value), j ≤ 12 ∧ k = .int .i64 j ∧ BoxAt w.heap.size s (min j s : Nat) vs (lsOf (cq f 7) (min j s)) C wr ∧ Below w.heap.size w wr) (fun k _ => 12 - (intOf k).toNat)
    case atStart =>
      exact ⟨0, fun _ => .slice none 0 0, C0, by omega, rfl, by rw [Nat.zero_min, lsOf_zero]; exact hB0, hb0⟩
    case round =>
      obtain ⟨j, vs, C, hj, rfl, hB, hbel⟩ := hrel
      have HB := Lib.hid hB
      by_cases hlt : j < 12
      · obtain ⟨b, off, rfl, hb, hr⟩ := HA.out.one (by omega)
        have o1 : wr.cell? ⟨b, off + j, none⟩ = some (.int .i64 (f j)) := (hbel.cell (p := ⟨b, off + j, none⟩) hb).trans (hr j (by omega))
        have hjN : (j : Int) < (n : Int) := by omega
        have hj0 : (0 : Int) ≤ (j : Int) := by omega
        have hjw : IntKind.i64.wrap ((j : Int) + 1) = (j : Int) + 1 := IntWalk.i64_in _ (by omega)
        have hbd := cutI_bd (n := f j) (lo := 0) (hi := 7) (by omega)
        have hp : cutI (f j) 0 7 = ((cq f 7 j : Nat) : Int) := by unfold cq; omega
        have hp8 : cq f 7 j < 8 := by unfold cq; omega
        have HP := Lib.hid hp
        clear hb0 hB0 hB
        by_cases hfull : j < s
        · have hmj := Lib.hid (show min j s = j by omega)
          have hmj1 := Lib.hid (show min (j + 1) s = j + 1 by omega)
          go_wp2_with (first
            | (go_at_call 9; refine (Cut_any _ _ _ _ (by omega) (by omega) (by omega)).mono ?_; rintro e w1 ⟨rfl, rfl⟩; rw [HP.out])
            | (go_at_call 8; refine (Put_ok HB.out (cq f 7 j) (j : Int) hp8 (by omega) (by omega) (by omega) (by have := lsOf_len (cq f 7) (min j s) (cq f 7 j); omega)).mono ?_; rintro e w2 ⟨vs', C', rfl, hB2, hb2⟩))
          go_roundw
          case rel =>
            refine ⟨j + 1, vs', C', by omega, by go_num, ?_, hbel.trans hb2⟩
            rw [hmj1.out, lsOf_succ]
            rw [hmj.out] at hB2
            exact hB2
          case measure => simp [intOf]; omega
        · have hmj := Lib.hid (show min j s = s by omega)
          have hmj1 := Lib.hid (show min (j + 1) s = s by omega)
          go_wp2_with (first
            | (go_at_call 9; refine (Cut_any _ _ _ _ (by omega) (by omega) (by omega)).mono ?_; rintro e w1 ⟨rfl, rfl⟩; rw [HP.out])
            | (go_at_call 8; refine (Put_full HB.out (cq f 7 j : Int) (j : Int) (by omega) (by omega) (by omega)).mono ?_; rintro e w2 ⟨rfl, q2, rfl⟩))
          go_roundw
          case rel =>
            refine ⟨j + 1, vs, C, by omega, by go_num, ?_, below_drewN hbel _⟩
            rw [hmj1.out.trans hmj.out.symm]
            exact HB.out.drewN _
          case measure => simp [intOf]; omega
      · obtain rfl : j = 12 := by omega
        clear hb0 hB0 hB
        go_wp2
        go_ret
        exact ⟨vs, C, rfl, HB.out, hbel⟩
  · obtain rfl : n = N := by omega
    clear hN hNn
    go_loopw [27] (fun k wr => ∃ (j : Nat) (vs : Nat → Value) (C : Array Value), j ≤ n ∧ k = .int .i64 j ∧ BoxAt w.heap.size s (min j s : Nat) vs (lsOf (cq f 7) (min j s)) C wr ∧ Below w.heap.size w wr) (fun k _ => n - (intOf k).toNat)
    case atStart =>
      exact ⟨0, fun _ => .slice none 0 0, C0, by omega, rfl, by rw [Nat.zero_min, lsOf_zero]; exact hB0, hb0⟩
    case round =>
      obtain ⟨j, vs, C, hj, rfl, hB, hbel⟩ := hrel
      have HB := Lib.hid hB
      by_cases hlt : j < n
      · obtain ⟨b, off, rfl, hb, hr⟩ := HA.out.one (by omega)
        have o1 : wr.cell? ⟨b, off + j, none⟩ = some (.int .i64 (f j)) := (hbel.cell (p := ⟨b, off + j, none⟩) hb).trans (hr j (by omega))
        have hjN : (j : Int) < (n : Int) := by omega
        have hj0 : (0 : Int) ≤ (j : Int) := by omega
        have hjw : IntKind.i64.wrap ((j : Int) + 1) = (j : Int) + 1 := IntWalk.i64_in _ (by omega)
        have hbd := cutI_bd (n := f j) (lo := 0) (hi := 7) (by omega)
        have hp : cutI (f j) 0 7 = ((cq f 7 j : Nat) : Int) := by unfold cq; omega
        have hp8 : cq f 7 j < 8 := by unfold cq; omega
        have HP := Lib.hid hp
        clear hb0 hB0 hB
        by_cases hfull : j < s
        · have hmj := Lib.hid (show min j s = j by omega)
          have hmj1 := Lib.hid (show min (j + 1) s = j + 1 by omega)
          go_wp2_with (first
            | (go_at_call 9; refine (Cut_any _ _ _ _ (by omega) (by omega) (by omega)).mono ?_; rintro e w1 ⟨rfl, rfl⟩; rw [HP.out])
            | (go_at_call 8; refine (Put_ok HB.out (cq f 7 j) (j : Int) hp8 (by omega) (by omega) (by omega) (by have := lsOf_len (cq f 7) (min j s) (cq f 7 j); omega)).mono ?_; rintro e w2 ⟨vs', C', rfl, hB2, hb2⟩))
          go_roundw
          case rel =>
            refine ⟨j + 1, vs', C', by omega, by go_num, ?_, hbel.trans hb2⟩
            rw [hmj1.out, lsOf_succ]
            rw [hmj.out] at hB2
            exact hB2
          case measure => simp [intOf]; omega
        · have hmj := Lib.hid (show min j s = s by omega)
          have hmj1 := Lib.hid (show min (j + 1) s = s by omega)
          go_wp2_with (first
            | (go_at_call 9; refine (Cut_any _ _ _ _ (by omega) (by omega) (by omega)).mono ?_; rintro e w1 ⟨rfl, rfl⟩; rw [HP.out])
            | (go_at_call 8; refine (Put_full HB.out (cq f 7 j : Int) (j : Int) (by omega) (by omega) (by omega)).mono ?_; rintro e w2 ⟨rfl, q2, rfl⟩))
          go_roundw
          case rel =>
            refine ⟨j + 1, vs, C, by omega, by go_num, ?_, below_drewN hbel _⟩
            rw [hmj1.out.trans hmj.out.symm]
            exact HB.out.drewN _
          case measure => simp [intOf]; omega
      · obtain rfl : n = j := by omega
        clear hb0 hB0 hB
        go_wp2
        go_ret
        exact ⟨vs, C, rfl, HB.out, hbel⟩
end Go.Proofs.Ytblcgmihdgnhbaa
