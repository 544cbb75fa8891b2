/- The fixed examples of the season. -/
import Derived.Test.YtaebebpldkciiaaGreatDoorS13
import Derived.Test.YtaebebpldkciiaaGreatDoorB1
namespace Go.Proofs.YtaebebpldkciiaaGreatDoor
open Go.RowKit

def fxS : Su := ⟨0, 0, fun _ => 0⟩
def fxA : Inp := ⟨0, 0, ⟨#[65]⟩, ⟨#[69, 65, 83, 84]⟩, .empty, stT 0 0 0 9, 0, 0, false⟩
def fxB : Inp := ⟨99, 0, .empty, .empty, .empty, [], 0, 0, false⟩
theorem fx_run : ((runP kindsS fxS [fxA, fxB]).s, (runP kindsS fxS [fxA, fxB]).fl, (runP kindsS fxS [fxA, fxB]).a, (runP kindsS fxS [fxA, fxB]).r) = (10, 1, 1, 1) := by kernel_rfl
def dxS : Su := ⟨9, 9, fun _ => 0⟩
def dxA : Inp := ⟨0, 0, ⟨#[65]⟩, ⟨#[69, 65, 83, 84]⟩, .empty, stT 0 0 0 9, 0, 0, false⟩
def dxB : Inp := ⟨0, 0, ⟨#[66]⟩, ⟨#[69, 65, 83, 84]⟩, .empty, stT 5 0 3 9, 0, 0, false⟩
theorem dx_run : ((runP kindsS dxS [dxA, dxB]).s, (runP kindsS dxS [dxA, dxB]).fl, (runP kindsS dxS [dxA, dxB]).a, (runP kindsS dxS [dxA, dxB]).r) = (10, 1, 1, 1) := by kernel_rfl
end Go.Proofs.YtaebebpldkciiaaGreatDoor
