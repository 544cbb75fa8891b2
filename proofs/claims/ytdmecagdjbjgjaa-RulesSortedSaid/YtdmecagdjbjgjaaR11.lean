/- Package probe: check of two tubes of one node each. -/
import Derived.Test.YtdmecagdjbjgjaaR10
import Derived.Test.YtdmecagdjbjgjaaR8
namespace Go.Proofs.Ytdmecagdjbjgjaa
open Go.RowKit

/-- A node without uncertainty, at the head of a block. -/
def Node1 (w : World) (g : Nat) (a b h : Int) : Prop := g < w.heap.size ∧ w.heap[g]? = some (.cells #[.int .i64 0, .int .i64 a, .int .i64 b, .int .i64 h, .int .i64 0, .int .i64 0] 45 (0, 0))
theorem Node1.below {w w' : World} {g : Nat} {a b h : Int} (hn : Node1 w g a b h) (hb : Below w.heap.size w w') : Node1 w' g a b h := ⟨Nat.lt_of_lt_of_le hn.1 hb.size, (hb.block g hn.1).trans hn.2⟩
theorem tubeNode_any (a b h : Int) (g c : Nat) (w : World) (h1 : Bd 1000000 a) (h2 : Bd 1000000 b) (h3 : 0 ≤ h ∧ h ≤ 60000) (hn : Node1 w g a b h) :
    Calls Try.prog 44 #[.slice (some ⟨g, 0, none⟩) 1 c] w fun E w' => E = .returned (.int .i64 0) ∧ Below w.heap.size w w' :=
  tubeOne_any a b h g 0 c w h1 h2 h3 hn.1 ⟨cell_of_row w _ 0 _ 45 (0, 0) hn.2, cell_of_row w _ 1 _ 45 (0, 0) hn.2, cell_of_row w _ 2 _ 45 (0, 0) hn.2, cell_of_row w _ 3 _ 45 (0, 0) hn.2, cell_of_row w _ 4 _ 45 (0, 0) hn.2, cell_of_row w _ 5 _ 45 (0, 0) hn.2⟩

set_option maxRecDepth 100000 in
set_option maxHeartbeats 8000000 in
theorem check2_any (a b h c d k lat vert : Int) (g ga gb : Nat) (w : World) (h1 : Bd 1000000 a) (h2 : Bd 1000000 b) (h3 : Bd 1000000 c) (h4 : Bd 1000000 d) (h5 : 0 ≤ h ∧ h ≤ 60000) (h6 : 0 ≤ k ∧ k ≤ 60000) (h7 : 0 ≤ lat ∧ lat ≤ 1000000) (h8 : 0 ≤ vert ∧ vert ≤ 60000)
    (hna : Node1 w ga a b h) (hnb : Node1 w gb c d k) (hg : g < w.heap.size) (hc0 : w.cell? ⟨g, 0, none⟩ = some (.slice (some ⟨ga, 0, none⟩) 1 1)) (hc1 : w.cell? ⟨g, 1, none⟩ = some (.slice (some ⟨gb, 0, none⟩) 1 1)) :
    Calls Try.prog 27 #[.agg #[.int .i64 lat, .int .i64 vert], .slice (some ⟨g, 0, none⟩) 2 2] w fun E w' => E = .returned (.int .i64 0) ∧ Below w.heap.size w w' := by
  have HC := Lib.hid (fun W => CheckSep_any lat vert W)
  rw [show sepE lat vert = 0 from if_pos ⟨h7.1, h7.2, h8.1, h8.2⟩] at HC
  have HA := Lib.hid (fun W (hW : Below w.heap.size w W) => tubeNode_any a b h ga 1 W h1 h2 h5 (hna.below hW))
  have HB := Lib.hid (fun W (hW : Below w.heap.size w W) => tubeNode_any c d k gb 1 W h3 h4 h6 (hnb.below hW))
  have HC0 := Lib.hid hc0
  have HC1 := Lib.hid hc1
  clear h1 h2 h3 h4 h5 h6 h7 h8 hna hnb hc0 hc1
  go_enter Try.func27, Try.ntmps27
  go_wp2_with (go_at_call 21; go_loud (refine (HC.out _).mono ?_; rintro E w2 ⟨rfl, hb2⟩; have HB2 := Lib.hid (((Below.refl _ w).alloc (Nat.le_refl _) _).trans (hb2.mono (by simp))); clear hb2))
  go_loopw [16] (fun x wr => ∃ j : Nat, j ≤ 2 ∧ x = .int .i64 j ∧ Below w.heap.size w wr) (fun x _ => 2 - (intOf x).toNat)
  case atStart => exact ⟨0, by omega, rfl, HB2.out⟩
  case round =>
    obtain ⟨j, hj, rfl, hbw⟩ := hrel
    have HBW := Lib.hid hbw
    rcases (show j = 0 ∨ j = 1 ∨ j = 2 by omega) with rfl | rfl | rfl
    · have e0 := (hbw.cell (p := ⟨g, 0, none⟩) hg).trans HC0.out
      clear hbw
      rw [show ((0 : Nat) : Int) = 0 from rfl]
      go_wp2_with (go_at_call 44; go_loud (refine (HA.out _ HBW.out).mono ?_; rintro E w3 ⟨rfl, hb3⟩; have HB3 := Lib.hid (HBW.out.trans (hb3.mono HBW.out.size)); clear hb3))
      go_roundw
      case rel => exact ⟨1, by omega, by first | rfl | go_num, HB3.out⟩
      case measure => simp [intOf]
    · have e0 := (hbw.cell (p := ⟨g, 1, none⟩) hg).trans HC1.out
      clear hbw
      rw [show ((1 : Nat) : Int) = 1 from rfl]
      go_wp2_with (go_at_call 44; go_loud (refine (HB.out _ HBW.out).mono ?_; rintro E w3 ⟨rfl, hb3⟩; have HB3 := Lib.hid (HBW.out.trans (hb3.mono HBW.out.size)); clear hb3))
      go_roundw
      case rel => exact ⟨2, by omega, by first | rfl | go_num, HB3.out⟩
      case measure => simp [intOf]
    · clear hbw
      rw [show ((2 : Nat) : Int) = 2 from rfl]
      go_wp2
      go_ret
      exact ⟨rfl, HBW.out⟩
end Go.Proofs.Ytdmecagdjbjgjaa
