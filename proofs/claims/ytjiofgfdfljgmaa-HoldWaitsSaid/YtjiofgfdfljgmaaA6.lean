/- The walk of HoldWaits. -/
import Derived.Test.YtjiofgfdfljgmaaA5
namespace Go.Proofs.Ytjiofgfdfljgmaa
open Go.RowKit

def sA : ByteArray := { data := #[65] }
def sB : ByteArray := { data := #[66] }
theorem nameA : nameB sA = true := by decide
theorem nameBB : nameB sB = true := by decide
theorem idxAB (h f : Int) : idxL [(sA, h, f)] sB = -1 := by
  have : isCall sB (sA, h, f) = false := by
    show (sA.toList == sB.toList) = false
    rw [ByteArray.toList_eq, ByteArray.toList_eq]
    decide
  unfold idxL
  rw [List.findIdx_cons, this]
  simp
theorem wrong_ok {now t : Int} (h1 : now ≤ t) (h2 : t ≤ 200000) : wrongB now t = false := by
  unfold wrongB; simp; omega

set_option maxRecDepth 100000 in
set_option maxHeartbeats 4000000 in
theorem Waits_any (x y z : Int) (w : World) : Calls Try.prog 3 #[.int .i64 x, .int .i64 y, .int .i64 z] w fun e w' => e = .returned (.bool true) ∧ Below w.heap.size w w' := by
  have b1 := cutI_bd (n := x) (lo := 0) (hi := 9000) (by omega)
  have b2 := cutI_bd (n := y) (lo := 0) (hi := 1000) (by omega)
  have b3 := cutI_bd (n := z) (lo := 0) (hi := 1000) (by omega)
  have C1 := Lib.hid (fun W => Cut_any x 0 9000 W (by omega) (by omega) (by omega))
  have C2 := Lib.hid (fun W => Cut_any y 0 1000 W (by omega) (by omega) (by omega))
  have C3 := Lib.hid (fun W => Cut_any z 0 1000 W (by omega) (by omega) (by omega))
  generalize cutI x 0 9000 = lo at *
  generalize cutI y 0 1000 = en at *
  generalize cutI z 0 1000 = dl at *
  have hq : (lo + 1000 - lo) / 500 + 1 ≤ 32 := by omega
  have eA : entB 0 (lo + 1000) lo 500 en [] sA = true := by
    unfold entB
    rw [nameA, idxL_nil, wrong_ok (by omega) (by omega), topH_nil]
    simp; omega
  have eB : entB en (lo + 1000) lo 500 en [(sA, lo, en)] sB = true := by
    unfold entB
    rw [nameBB, idxAB, wrong_ok (by omega) (by omega)]
    simp [topH]
  have HA := Lib.hid eA
  have HB := Lib.hid eB
  clear eA eB
  have tok1 : True := trivial
  have tok2 : True := trivial
  have tok3 : True := trivial
  have tok4 : True := trivial
  go_enter Try.func3, Try.ntmps3
  go_wp2_with (first
    | (go_at_call 7; have _t := tok1; refine (C1.out _).mono ?_; rintro e w1 ⟨rfl, rfl⟩; clear tok1)
    | (go_at_call 7; have _t := tok2; refine (C2.out _).mono ?_; rintro e w1 ⟨rfl, rfl⟩; clear tok2)
    | (go_at_call 7; have _t := tok3; refine (C3.out _).mono ?_; rintro e w1 ⟨rfl, rfl⟩; clear tok3)
    | (go_at_call 8; go_loud (refine (New_ok lo (lo + 1000) 500 _ (by omega) (by omega) (by omega) (by omega) (by omega) hq).mono ?_; rintro e w1 ⟨g, hg, rfl, hS, hb1⟩; have HS := Lib.hid hS; clear hS))
    | (go_at_call 9; have _t := tok4; go_loud (refine (Enter_ok HS.out sA en (by decide) (by decide) (by rw [topH_nil]; omega) (by omega) HA.out).mono ?_; rintro e w2 ⟨v2, rfl, hS2, hb2⟩; rw [topH_nil] at hS2; have HS2 := Lib.hid hS2; clear hS2 tok4))
    | (go_at_call 9; go_loud (refine (Enter_ok HS2.out sB en (by decide) (by simp) (by simp [topH]; omega) (by omega) HB.out).mono ?_; rintro e w3 ⟨v3, rfl, hS3, hb3⟩; have HS3 := Lib.hid hS3; clear hS3))
    | (go_at_call 10; go_loud (refine (Leave_ok (x := (sA, lo, en)) HS3.out (en + dl) (by simp) (by simp; omega) (wrong_ok (by omega) (by omega))).mono ?_; rintro e w4 ⟨v4, rfl, hS4, hb4⟩)))
  all_goals go_ret
  all_goals exact ⟨rfl, bstepB (Nat.le_refl _) hb1 (Below.refl _ _) |>.trans (((hb2.trans hb3).trans hb4).mono hg)⟩
end Go.Proofs.Ytjiofgfdfljgmaa
