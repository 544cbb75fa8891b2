/- slices.Contains of an int. -/
import Derived.Test.YtpnihjomemojlaaB3
namespace Go.Proofs.Ytpnihjomemojlaa
open Go.RowKit

set_option maxHeartbeats 1000000 in
theorem Index_any (A : Option Addr) (n c : Nat) (g : List Int) (x : Int) (w : World) (hA : Sl w w.heap.size 1 A n (fun i => intV1 g[i]!)) (hl : g.length = n) (hn : n ≤ 1000) :
    Calls Try.prog 25 #[.slice A n c, .int .i64 x] w fun e w' => (∃ v : Int, e = .returned (.int .i64 v) ∧ (0 ≤ v ↔ x ∈ g)) ∧ w = w' := by
  have HA := Lib.hid hA
  have HL := Lib.hid hl
  clear hA hl
  go_enter Try.func25, Try.ntmps25
  go_wp2_with fail
  go_loopw [5, 8] (fun _ t8 wr => ∃ j : Nat, j ≤ n ∧ t8 = .int .i64 (j : Int) ∧ Hid (∀ i, i < j → g[i]! ≠ x) ∧ wr = w) (fun _ t8 _ => n - (intOf t8).toNat)
  case atStart => exact ⟨0, by omega, rfl, Lib.hid (fun i h => absurd h (by omega)), rfl⟩
  case round =>
    obtain ⟨j, hj, rfl, HK, rfl⟩ := hrel
    by_cases hlt : j < n
    · have hj0 : (0 : Int) ≤ (j : Int) := by omega
      have hjn : (j : Int) < (n : Int) := by omega
      obtain ⟨b, o, rfl, hb, hr⟩ := HA.out (by omega)
      have hc : wr.rangeAt b (o + j * 1) (intV1 g[j]!) := hr j hlt
      have c0 : wr.cell? ⟨b, o + j, none⟩ = some (.int .i64 g[j]!) := by
        have := hc 0 _ rfl
        simpa using this
      obtain ⟨y, hy⟩ : ∃ y, g[j]! = y := ⟨_, rfl⟩
      rw [hy] at c0
      have HY := Lib.hid hy
      clear hc hr hy
      by_cases e : x = y
      · subst e
        have HM := Lib.hid (show x ∈ g by rw [← HY.out, getElem!_pos g j (by rw [HL.out]; exact hlt)]; exact List.getElem_mem _)
        go_wp2_with fail
        go_ret
        exact ⟨⟨(j : Int), rfl, by simp [HM.out]⟩, rfl⟩
      · have t1 : (x == y) = false := by simpa using e
        have HK2 := Lib.hid (show ∀ i, i < j + 1 → g[i]! ≠ x from fun i h => by
          by_cases e2 : i = j
          · subst e2; rw [HY.out]; exact Ne.symm e
          · exact HK.out i (by omega))
        clear e
        go_wp2_with fail
        go_roundw
        case rel => exact ⟨j + 1, by omega, by go_num, HK2, trivial⟩
        case measure => simp [intOf]; omega
    · obtain rfl : j = n := by omega
      have HM := Lib.hid (show ¬ x ∈ g from fun h => by
        obtain ⟨i, hi, e⟩ := List.mem_iff_getElem.1 h
        have := HK.out i (by rw [← HL.out]; exact hi)
        rw [getElem!_pos g i hi] at this
        exact this e)
      go_wp2_with fail
      go_ret
      exact ⟨⟨-1, rfl, by simp [HM.out]⟩, rfl⟩
theorem Contains_any (A : Option Addr) (n c : Nat) (g : List Int) (x : Int) (w : World) (hA : Sl w w.heap.size 1 A n (fun i => intV1 g[i]!)) (hl : g.length = n) (hn : n ≤ 1000) :
    Calls Try.prog 17 #[.slice A n c, .int .i64 x] w fun e w' => e = .returned (.bool (decide (x ∈ g))) ∧ w = w' := by
  have HI := Lib.hid (Index_any A n c g x w hA hl hn)
  by_cases hm : x ∈ g
  · have HD := Lib.hid (show decide (x ∈ g) = true from decide_eq_true hm)
    have HM := Lib.hid hm
    clear hA hl hm
    rw [HD.out]
    go_enter Try.func17, Try.ntmps17
    go_wp2_with (go_at_call 25; go_loud (refine HI.out.mono ?_; rintro e w1 ⟨⟨v, rfl, hv⟩, rfl⟩; have hv0 : (0 : Int) ≤ v := hv.2 HM.out; clear hv))
    go_ret
    exact ⟨by first | rfl | (simp; omega), rfl⟩
  · have HD := Lib.hid (show decide (x ∈ g) = false from decide_eq_false hm)
    have HM := Lib.hid hm
    clear hA hl hm
    rw [HD.out]
    go_enter Try.func17, Try.ntmps17
    go_wp2_with (go_at_call 25; go_loud (refine HI.out.mono ?_; rintro e w1 ⟨⟨v, rfl, hv⟩, rfl⟩; have hv0 : ¬ (0 : Int) ≤ v := fun h => HM.out (hv.1 h); clear hv))
    go_ret
    exact ⟨by simp; omega, rfl⟩
end Go.Proofs.Ytpnihjomemojlaa
