/- Package mailbox: Force. -/
import Derived.Test.YtblcgmihdgnhbaaC1
import Derived.StillTailTactics
namespace Go.Proofs.Ytblcgmihdgnhbaa
open Go.RowKit

set_option maxRecDepth 100000 in
set_option maxHeartbeats 1000000 in
/-- There is room. -/
theorem Force_room {g : Nat} {sz cnt : Int} {vs : Nat → Value} {ls : Nat → List Int} {C : Array Value} {w : World} (h : BoxAt g sz cnt vs ls C w) (p : Nat) (x : Int) (hp : p < 8) (hc : cnt ≠ sz) (hc0 : 0 ≤ cnt) (hc1 : cnt ≤ 1000) (hl : (ls p).length ≤ 1000) :
    Calls Try.prog 14 #[.pointer (some ⟨g, 0, none⟩), .int .i64 (p : Int), .int .i64 x] w fun e w' =>
      ∃ vs' C', e = .returned (.tuple #[.int .i64 0, .bool false, .int .i64 0]) ∧ BoxAt g sz (cnt + 1) vs' (upd ls p (ls p ++ [x])) C' w' ∧ Below g w w' ∧ OffBox g vs w w' := by
  have HP := Lib.hid (Put_fr h p x hp hc hc0 hc1 hl)
  clear h hc hl
  go_enter Try.func14, Try.ntmps14
  go_wp2_with (go_at_call 8; refine HP.out.mono ?_; rintro e w1 ⟨vs', C', rfl, hB, hb, ho⟩)
  go_ret3
  exact ⟨_, _, rfl, hB, hb, ho⟩

set_option maxRecDepth 100000 in
set_option maxHeartbeats 1000000 in
/-- No room, and nothing that is less urgent. -/
theorem Force_low {g : Nat} {sz cnt : Int} {vs : Nat → Value} {ls : Nat → List Int} {C : Array Value} {w : World} (h : BoxAt g sz cnt vs ls C w) (p : Nat) (x : Int) (hp : p < 8) (hc : cnt = sz) (he : ∀ q, q < p → ls q = []) :
    Calls Try.prog 14 #[.pointer (some ⟨g, 0, none⟩), .int .i64 (p : Int), .int .i64 x] w fun e w' =>
      e = .returned (.tuple #[.int .i64 0, .bool false, .int .i64 9]) ∧ ∃ q, w' = w.drewN q := by
  have HP := Lib.hid (Put_full h p x (by omega) (by omega) hc)
  have HB := Lib.hid h
  have HE := Lib.hid he
  clear h hc he
  go_enter Try.func14, Try.ntmps14
  go_wp2_with (go_at_call 8; refine HP.out.mono ?_; rintro e w1 ⟨rfl, q1, rfl⟩)
  go_loopw [11, 12, 23] (fun _ _ k wr => ∃ j : Nat, j ≤ p ∧ k = .int .i64 (j : Int) ∧ wr = w.drewN q1) (fun _ _ k _ => p - (intOf k).toNat)
  case atStart => exact ⟨0, by omega, rfl, rfl⟩
  case round =>
    obtain ⟨j, hj, rfl, rfl⟩ := hrel
    by_cases hlt : j < p
    · have hj8 : j < 8 := by omega
      obtain ⟨A, cj, hvj⟩ := own_shape (HB.out.own j hj8)
      have ccj := (HB.out.cell (2 + j)).trans ((HB.out.cv j hj8).trans (congrArg some hvj))
      have hlen : (ls j).length = 0 := by rw [HE.out j hlt]; rfl
      rw [hlen] at ccj
      have hj0 : (0 : Int) ≤ (j : Int) := by omega
      have hj8' : (j : Int) < 8 := by omega
      have hjw : IntKind.i64.wrap ((j : Int) + 1) = (j : Int) + 1 := IntWalk.i64_in _ (by omega)
      clear hvj hlen
      go_wp2
      go_roundw
      case rel => exact ⟨j + 1, by omega, by go_num, trivial⟩
      case measure => simp [intOf]; omega
    · obtain rfl : p = j := by omega
      go_wp2
      go_ret3
      exact ⟨rfl, _, rfl⟩
end Go.Proofs.Ytblcgmihdgnhbaa
