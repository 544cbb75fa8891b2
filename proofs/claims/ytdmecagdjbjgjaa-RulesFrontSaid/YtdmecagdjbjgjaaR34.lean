/- slices.Equal of alerts, where they are equal. -/
import Derived.Test.YtdmecagdjbjgjaaR20
namespace Go.Proofs.Ytdmecagdjbjgjaa
open Go.RowKit

set_option maxRecDepth 100000 in
set_option maxHeartbeats 4000000 in
theorem Equal_same (V U : Option Addr) (m cv cu : Nat) (L : List Al) (w : World) (hV : Sl w w.heap.size 4 V m (fun i => alL L[i]!)) (hU : Sl w w.heap.size 4 U m (fun i => alL L[i]!)) (hm : m ≤ 100000) :
    Calls Try.prog 15 #[.slice V m cv, .slice U m cu] w fun e w' => e = .returned (.bool true) ∧ Below w.heap.size w w' := by
  have HV := Lib.hid hV
  have HU := Lib.hid hU
  have hm0 : (0 : Int) ≤ (m : Int) := by omega
  clear hV hU
  go_enter Try.func15, Try.ntmps15
  go_wp2
  go_loopw [5, 13] (fun _ i wr => ∃ j : Nat, j ≤ m ∧ i = .int .i64 (j : Int) ∧ ∃ q, wr = w.drewN q) (fun _ i _ => m - (intOf i).toNat)
  case atStart => exact ⟨0, by omega, rfl, 0, rfl⟩
  case round =>
    obtain ⟨j, hj, rfl, q, rfl⟩ := hrel
    by_cases hlt : j < m
    · obtain ⟨b1, o1, rfl, hb1, hr1⟩ := HV.out (by omega)
      obtain ⟨b2, o2, rfl, hb2, hr2⟩ := HU.out (by omega)
      have h1 : ∀ i v, (alL L[j]!)[i]? = some v → w.cell? ⟨b1, o1 + j * 4 + i, none⟩ = some v := fun i v hv => hr1 j hlt i v hv
      have h2 : ∀ i v, (alL L[j]!)[i]? = some v → w.cell? ⟨b2, o2 + j * 4 + i, none⟩ = some v := fun i v hv => hr2 j hlt i v hv
      have HQ := Lib.hid (fun W => run_eqA L[j]! L[j]! W)
      generalize L[j]! = y at *
      obtain ⟨y1, y2, y3, y4⟩ := y
      have d0 : w.cell? ⟨b1, o1 + j * 4, none⟩ = some (.string y1) := h1 0 _ rfl
      have d1 : w.cell? ⟨b1, o1 + j * 4 + 1, none⟩ = some (.int .i64 y2) := h1 1 _ rfl
      have d2 : w.cell? ⟨b1, o1 + j * 4 + 2, none⟩ = some (.int .i64 y3) := h1 2 _ rfl
      have d3 : w.cell? ⟨b1, o1 + j * 4 + 3, none⟩ = some (.int .i64 y4) := h1 3 _ rfl
      have e0 : w.cell? ⟨b2, o2 + j * 4, none⟩ = some (.string y1) := h2 0 _ rfl
      have e1 : w.cell? ⟨b2, o2 + j * 4 + 1, none⟩ = some (.int .i64 y2) := h2 1 _ rfl
      have e2 : w.cell? ⟨b2, o2 + j * 4 + 2, none⟩ = some (.int .i64 y3) := h2 2 _ rfl
      have e3 : w.cell? ⟨b2, o2 + j * 4 + 3, none⟩ = some (.int .i64 y4) := h2 3 _ rfl
      have hbe := HQ.out
      rw [decide_eq_true rfl] at hbe
      dsimp only at hbe
      have l1 : (j : Int) < (m : Int) := by omega
      have l0 : (0 : Int) ≤ (j : Int) := by omega
      have hwj : IntKind.i64.wrap ((j : Int) + 1) = (j : Int) + 1 := IntWalk.i64_in _ (by omega)
      clear h1 h2 hr1 hr2
      go_wp2
      go_quiet (fail)
      go_wp2
      go_roundw
      case rel => exact ⟨j + 1, by omega, by go_num, _, rfl⟩
      case measure => simp [intOf]; omega
    · obtain rfl : m = j := by omega
      go_wp2
      go_ret
      exact ⟨rfl, below_drewN (Below.refl _ _) _⟩
end Go.Proofs.Ytdmecagdjbjgjaa
