/- Package approach: Late, where nobody is late. -/
import Derived.Test.YtmdfdjgeaemicaaA3
import Derived.Test.YtmdfdjgeaemicaaB1
namespace Go.Proofs.Ytmdfdjgeaemicaa
open Go.RowKit

set_option maxRecDepth 100000 in
set_option maxHeartbeats 2000000 in
theorem Late_ok (A : Option Addr) (n c : Nat) (its : Nat → It) (G : Array Value) (g : Nat → Int) (w : World) (hA : Sl w w.heap.size 4 A n (fun i => (its i).row)) (hn : n ≤ maxLen) (hG : Gaps G g) (hc : checkCode n its g = 0)
    (hno : ∀ i, i < n → tT g its i ≤ (its i).sl) :
    Calls Try.prog 17 #[.slice A n c, .agg G] w fun e w' => e = .returned (.tuple #[.slice none 0 0, .int .i64 0]) ∧ Below w.heap.size w w' := by
  have HS := Lib.hid hG.1
  have HC := Lib.hid hc
  have HN := Lib.hid hno
  have hb0 : Below w.heap.size w (w.alloc (.cells G 24)) := (Below.refl _ _).alloc (Nat.le_refl _) _
  have hA1 := (hA.below hb0).more hb0.size
  clear hc hno
  go_enter Try.func17, Try.ntmps17
  go_wp2_with (first
    | (refine wpList_load_row rfl 24 _ rfl w.heap.size rfl 24 G (0, 0) _ (heap_alloc_new w _) Try.underlying24 rfl (by rw [HS.out]; kernel_rfl) ?_)
    | (go_at_call 8; refine (Times_ok A n c its G g _ hA1 hn hG HC.out).mono ?_; rintro e w1 ⟨v, rfl, hT, hb1⟩; obtain ⟨T, ct, rfl⟩ := own_shape hT))
  have HB1 := Lib.hid (hb0.trans (hb1.mono hb0.size))
  have HT := Lib.hid (Sl_ints hT)
  clear hb1 hT
  go_loopw [8, 22] (fun o k wr => ∃ j : Nat, j ≤ n ∧ o = .slice none 0 0 ∧ k = .int .i64 j ∧ Hid (Below w1.heap.size w1 wr)) (fun _ k _ => n - (intOf k).toNat)
  case atStart => exact ⟨0, by omega, rfl, rfl, Below.refl _ _⟩
  case round =>
    obtain ⟨j, hj, rfl, rfl, HBr⟩ := hrel
    by_cases hlt : j < n
    · obtain ⟨bt, ot, rfl, hbt, hrt⟩ := HT.out.one (by omega)
      obtain ⟨b, off, rfl, hb, hrow⟩ := hA (by omega)
      have hr := hrow j hlt
      have hbr := HB1.out.trans (HBr.out.mono HB1.out.size)
      have hj0 : (0 : Int) ≤ (j : Int) := by omega
      have hjn : (j : Int) < (n : Int) := by omega
      have c0 : wr.cell? ⟨b, off + j * 4, none⟩ = some (.string (its j).nm) := (hbr.cell (p := ⟨b, off + j * 4, none⟩) hb).trans (hr 0 _ rfl)
      have c1 : wr.cell? ⟨b, off + j * 4 + 1, none⟩ = some (.int .i64 (its j).wk) := (hbr.cell (p := ⟨b, off + j * 4 + 1, none⟩) hb).trans (hr 1 _ rfl)
      have c2 : wr.cell? ⟨b, off + j * 4 + 2, none⟩ = some (.int .i64 (its j).rd) := (hbr.cell (p := ⟨b, off + j * 4 + 2, none⟩) hb).trans (hr 2 _ rfl)
      have c3 : wr.cell? ⟨b, off + j * 4 + 3, none⟩ = some (.int .i64 (its j).sl) := (hbr.cell (p := ⟨b, off + j * 4 + 3, none⟩) hb).trans (hr 3 _ rfl)
      have t1 : wr.cell? ⟨bt, ot + j, none⟩ = some (.int .i64 (tT g its j)) := (HBr.out.cell (p := ⟨bt, ot + j, none⟩) hbt).trans (hrt j hlt)
      have hbw : b < wr.heap.size := Nat.lt_of_lt_of_le hb hbr.size
      have hbw2 : b ≠ wr.heap.size := by omega
      have htw : bt < wr.heap.size := Nat.lt_of_lt_of_le hbt HBr.out.size
      have htw2 : bt ≠ wr.heap.size := by omega
      have hle := HN.out j hlt
      have hwr : IntKind.i64.wrap ((j : Int) + 1) = (j : Int) + 1 := IntWalk.i64_in _ (by unfold maxLen at hn; omega)
      have hnl : decide (tT g its j > (its j).sl) = false := by simp; omega
      have hnl2 : ¬ (its j).sl < tT g its j := by omega
      clear hr hrow hbr
      go_wp2_with fail
      go_quiet (fail)
      go_wp2_with fail
      go_roundw
      case rel => exact ⟨j + 1, by omega, rfl, by go_num, below_drewN (HBr.out.alloc HBr.out.size _) _⟩
      case measure => simp [intOf]; omega
    · obtain rfl : j = n := by omega
      go_wp2
      go_ret2
      exact ⟨rfl, HB1.out.trans (HBr.out.mono HB1.out.size)⟩
end Go.Proofs.Ytmdfdjgeaemicaa
