/- Package label: Check, Place, the fixed example. -/
import Derived.Test.YtpnihjomemojlaaB4
import Derived.Test.YtpnihjomemojlaaEq
import Derived.Lib.MinMax
namespace Go.Proofs.Ytpnihjomemojlaa
open Go.RowKit

def badB (i : It) : Bool := decide (1000 < max i.x (wr64 (-i.x))) || decide (1000 < max i.y (wr64 (-i.y))) || decide (i.x = -9223372036854775808) || decide (i.y = -9223372036854775808) || decide (i.w < 1) || decide (40 < i.w) || decide (i.h < 1) || decide (40 < i.h)
def ckL (l : List It) : Int := if 32 < l.length then 2 else if l.any badB = true then 4 else 0

set_option maxRecDepth 100000 in
set_option maxHeartbeats 4000000 in
theorem Check_any (A : Option Addr) (n c : Nat) (l : List It) (w : World) (hA : Sl w w.heap.size 4 A n (fun i => itV l[i]!)) (hl : l.length = n) (hn : n ≤ 1000) :
    Calls Try.prog 18 #[.slice A n c] w fun e w' => e = .returned (.int .i64 (ckL l)) ∧ Below w.heap.size w w' := by
  have HA := Lib.hid hA
  have HL := Lib.hid hl
  by_cases h32 : 32 < n
  · have HC := Lib.hid (show ckL l = 2 by unfold ckL; rw [if_pos (by omega)])
    have hq : (32 : Int) < (n : Int) := by omega
    clear hA hl
    go_enter Try.func18, Try.ntmps18
    go_wp2
    go_ret
    exact ⟨by rw [HC.out]; rfl, Below.refl _ _⟩
  · have HC := Lib.hid (show ckL l = if l.any badB = true then 4 else 0 by unfold ckL; rw [if_neg (by omega)])
    have hq : ¬ (32 : Int) < (n : Int) := by omega
    clear hA hl
    go_enter Try.func18, Try.ntmps18
    go_wp2_with fail
    go_loopw [10] (fun i wr => ∃ j : Nat, j ≤ n ∧ i = .int .i64 (j : Int) ∧ Hid (∀ k, k < j → badB l[k]! = false) ∧ Below w.heap.size w wr) (fun i _ => n - (intOf i).toNat)
    case atStart => exact ⟨0, by omega, rfl, Lib.hid (fun k hk => absurd hk (by omega)), Below.refl _ _⟩
    case round =>
      obtain ⟨j, hj, rfl, HK, hbr⟩ := hrel
      by_cases hlt : j < n
      · have hj0 : (0 : Int) ≤ (j : Int) := by omega
        have hjn : (j : Int) < (n : Int) := by omega
        obtain ⟨ba, oa, rfl, hba, hra⟩ := HA.out (by omega)
        have hc := hra j hlt
        have HM := Lib.hid (show l[j]! ∈ l by rw [getElem!_pos l j (by rw [HL.out]; exact hlt)]; exact List.getElem_mem _)
        obtain ⟨it, hit⟩ : ∃ it, l[j]! = it := ⟨_, rfl⟩
        dsimp only at hc
        rw [hit] at hc HM
        obtain ⟨x, y, v, h⟩ := it
        have HIt := Lib.hid hit
        have c0 : wr.cell? ⟨ba, oa + j * 4, none⟩ = some (.int .i64 x) := (hbr.cell (p := ⟨ba, oa + j * 4, none⟩) hba).trans (hc 0 _ rfl)
        have c1 : wr.cell? ⟨ba, oa + j * 4 + 1, none⟩ = some (.int .i64 y) := (hbr.cell (p := ⟨ba, oa + j * 4 + 1, none⟩) hba).trans (hc 1 _ rfl)
        have c2 : wr.cell? ⟨ba, oa + j * 4 + 2, none⟩ = some (.int .i64 v) := (hbr.cell (p := ⟨ba, oa + j * 4 + 2, none⟩) hba).trans (hc 2 _ rfl)
        have c3 : wr.cell? ⟨ba, oa + j * 4 + 3, none⟩ = some (.int .i64 h) := (hbr.cell (p := ⟨ba, oa + j * 4 + 3, none⟩) hba).trans (hc 3 _ rfl)
        have HBr := Lib.hid hbr
        have HBx := Lib.hid (hbr.alloc hbr.size (.cells #[.int .i64 x, .int .i64 y, .int .i64 v, .int .i64 h] 31))
        obtain ⟨nx, e1⟩ : ∃ s, IntKind.i64.wrap (-x) = s := ⟨_, rfl⟩
        obtain ⟨ny, e2⟩ : ∃ s, IntKind.i64.wrap (-y) = s := ⟨_, rfl⟩
        obtain ⟨mx, e3⟩ : ∃ s, max x nx = s := ⟨_, rfl⟩
        obtain ⟨my, e4⟩ : ∃ s, max y ny = s := ⟨_, rfl⟩
        have HBd := Lib.hid (show badB ⟨x, y, v, h⟩ = (decide (1000 < mx) || decide (1000 < my) || decide (x = -9223372036854775808) || decide (y = -9223372036854775808) || decide (v < 1) || decide (40 < v) || decide (h < 1) || decide (40 < h)) by
          rw [← e3, ← e4, ← e1, ← e2]; rfl)
        clear hc hra hit hbr
        cases hb : badB ⟨x, y, v, h⟩ with
        | false =>
          have hh := HBd.out.symm.trans hb
          simp only [Bool.or_eq_false_iff, decide_eq_false_iff_not] at hh
          obtain ⟨⟨⟨⟨⟨⟨⟨t1, t2⟩, t3⟩, t4⟩, t5⟩, t6⟩, t7⟩, t8⟩ := hh
          have HK2 := Lib.hid (show ∀ k, k < j + 1 → badB l[k]! = false from fun k hk => by
            by_cases e : k = j
            · subst e; rw [HIt.out]; exact hb
            · exact HK.out k (by omega))
          have b3 : (x == -9223372036854775808) = false := by simpa using t3
          have b4 : (y == -9223372036854775808) = false := by simpa using t4
          clear hb
          go_wp2_with fail
          go_roundw
          case rel => exact ⟨j + 1, by omega, by go_num, HK2, HBx.out⟩
          case measure => simp [intOf]; omega
        | true =>
          have HAny := Lib.hid (show l.any badB = true from List.any_eq_true.2 ⟨_, HM.out, hb⟩)
          have hh := HBd.out.symm.trans hb
          simp only [Bool.or_eq_true, decide_eq_true_eq] at hh
          clear hb
          by_cases q1 : (1000 : Int) < mx
          · clear hh
            go_wp2_with fail
            all_goals (go_ret; exact ⟨by rw [HC.out, if_pos HAny.out]; rfl, HBx.out⟩)
          by_cases q2 : (1000 : Int) < my
          · clear hh
            go_wp2_with fail
            all_goals (go_ret; exact ⟨by rw [HC.out, if_pos HAny.out]; rfl, HBx.out⟩)
          by_cases q3 : x = -9223372036854775808
          · subst q3
            clear hh
            go_wp2_with fail
            all_goals (go_ret; exact ⟨by rw [HC.out, if_pos HAny.out]; rfl, HBx.out⟩)
          by_cases q4 : y = -9223372036854775808
          · have b3 : (x == -9223372036854775808) = false := by simpa using q3
            subst q4
            clear hh
            go_wp2_with fail
            all_goals (go_ret; exact ⟨by rw [HC.out, if_pos HAny.out]; rfl, HBx.out⟩)
          by_cases q5 : v < 1
          · have b3 : (x == -9223372036854775808) = false := by simpa using q3
            have b4 : (y == -9223372036854775808) = false := by simpa using q4
            clear hh
            go_wp2_with fail
            all_goals (go_ret; exact ⟨by rw [HC.out, if_pos HAny.out]; rfl, HBx.out⟩)
          by_cases q6 : 40 < v
          · have b3 : (x == -9223372036854775808) = false := by simpa using q3
            have b4 : (y == -9223372036854775808) = false := by simpa using q4
            clear hh
            go_wp2_with fail
            all_goals (go_ret; exact ⟨by rw [HC.out, if_pos HAny.out]; rfl, HBx.out⟩)
          by_cases q7 : h < 1
          · have b3 : (x == -9223372036854775808) = false := by simpa using q3
            have b4 : (y == -9223372036854775808) = false := by simpa using q4
            clear hh
            go_wp2_with fail
            all_goals (go_ret; exact ⟨by rw [HC.out, if_pos HAny.out]; rfl, HBx.out⟩)
          by_cases q8 : 40 < h
          · have b3 : (x == -9223372036854775808) = false := by simpa using q3
            have b4 : (y == -9223372036854775808) = false := by simpa using q4
            clear hh
            go_wp2_with fail
            all_goals (go_ret; exact ⟨by rw [HC.out, if_pos HAny.out]; rfl, HBx.out⟩)
          exact absurd hh (by simp only [q1, q2, q3, q4, q5, q6, q7, q8, or_self, not_false_eq_true])
      · obtain rfl : j = n := by omega
        have HAny := Lib.hid (show ¬ l.any badB = true from fun h => by
          obtain ⟨x, hx, hb⟩ := List.any_eq_true.1 h
          obtain ⟨i, hi, rfl⟩ := List.mem_iff_getElem.1 hx
          have := HK.out i (by rw [← HL.out]; exact hi)
          rw [getElem!_pos l i hi, hb] at this
          cases this)
        have HBe := Lib.hid hbr
        clear hbr
        go_wp2_with fail
        go_ret
        exact ⟨by rw [HC.out, if_neg HAny.out]; rfl, HBe.out⟩
end Go.Proofs.Ytpnihjomemojlaa
