/- A drawn region: reads and calls that leave the world as it was, walked in the order of the text in large frames; then its tail. -/
import Derived.StillTailTactics
import Derived.BigQuiet
import Derived.WalkKit
namespace Go.Proofs.YtdlifdmnfbjokaaDoor
open Go

section
variable {P : Program} {ops : Array Oper} {w : World}
theorem wpStill_of_quiet {Q : Act → Prop} : ∀ (l : List Oper) (a : Act), wpQuiet P ops (fun w' => w' = w) Q l a → wpStill P ops w Q l a
  | [], _, h => h
  | o :: r, a, h => by
    unfold wpQuiet at h
    unfold wpStill
    split
    · rename_i hw
      rw [if_pos hw] at h
      obtain ⟨v, h1, h2⟩ := h
      have h3 := h1 w rfl
      have h4 := wpStill_of_quiet r _ h2
      unfold Oper.quietAt at h3
      unfold Oper.still
      revert h3
      cases (execOp a.eval o).run P w with
      | ok n w' =>
        cases n with
        | value u => rintro ⟨rfl, rfl⟩; exact ⟨rfl, h4⟩
        | skip => rintro ⟨rfl, rfl⟩; exact ⟨rfl, h4⟩
        | enter f args => rintro ⟨rfl, h5⟩; exact ⟨rfl, v, h5, h4⟩
        | _ => intro h5; exact h5.elim
      | _ => intro h5; exact h5.elim
    · rename_i hw
      rw [if_neg hw] at h
      exact wpStill_of_quiet r _ h
end
end Go.Proofs.YtdlifdmnfbjokaaDoor
