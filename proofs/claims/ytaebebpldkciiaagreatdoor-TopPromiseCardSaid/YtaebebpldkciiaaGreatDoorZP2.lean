/- Valid arrivals. -/
import Derived.Test.YtaebebpldkciiaaGreatDoorZP1
namespace Go.Proofs.YtaebebpldkciiaaGreatDoor
open Go.RowKit
instance (x : It) : Decidable x.ok := by unfold It.ok; infer_instance
abbrev Va := {x : It // x.ok}
instance : Inhabited Va := ⟨⟨⟨ByteArray.empty, 0, 0, 0⟩, by unfold It.ok; decide⟩⟩
def vi (l : List Va) (i : Nat) : It := (l[i]!).1
theorem vi_ok (l : List Va) (i : Nat) : (vi l i).ok := (l[i]!).2
def vaV (x : Va) : List Value := x.1.row
theorem vaV_len (x : Va) : (vaV x).length = 4 := rfl
theorem vaV_one (x : Va) : ∀ u ∈ vaV x, u.oneCell' = true := fun u hu => by
 simp only [vaV, It.row, List.mem_cons, List.not_mem_nil, or_false] at hu
 rcases hu with rfl | rfl | rfl | rfl <;> rfl
end Go.Proofs.YtaebebpldkciiaaGreatDoor
