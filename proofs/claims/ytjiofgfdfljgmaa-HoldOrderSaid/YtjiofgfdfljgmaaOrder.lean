/- HoldOrder returns true for every input. No conditions. -/
import Derived.Test.YtjiofgfdfljgmaaLaw
import Derived.Test.YtjiofgfdfljgmaaOI
import Derived.Test.YtjiofgfdfljgmaaA14
namespace Go.Proofs.Ytjiofgfdfljgmaa
open Go.ChangeShapes Go.WideShapes Go.ChangeAt Go.RowKit

set_option maxRecDepth 100000 in
theorem HoldOrder_lifted (os : Os) (started : os.Started) (H : Type) (enc : TypeId × Value → H) :
    ReturnsInHanded {} Try.checked os 6 .any (Rows.holdOrderSpec.pre6 enc Try.prog Try.f6 [] false) (Rows.holdOrderSpec.post enc Try.prog Try.f6 false true false false) := by
  refine Law.lifted started (by kernel_rfl) Try.func6 (by kernel_rfl) (tb := 4) rfl Try.underlying4 rfl (fun H ds hl => ?_)
    (ChangeSpec.witness6 (enc := enc) (C := Try.checked) false ⟨#[], #[.slice none 0 0], []⟩ 8 (by kernel_rfl) (by kernel_rfl) (by kernel_rfl) (by kernel_rfl)) ?_
  · match ds, hl with
    | [d0], _ => rfl
  intro W base args ds p hval hA hwt _
  rw [Try.params6] at hA hval
  obtain ⟨v0, d0, rfl, rfl, h0⟩ := trodAll_one hA
  obtain ⟨A0, n0, c0, f0, rfl, hn0, hc0, hsl0, hnil0⟩ := open_l (hval 0 32 v0 rfl rfl) h0
  exact HOrder_any A0 n0 c0 f0 W hsl0 hn0 hc0 hnil0

theorem HoldOrder_holds : Rows.HoldOrderSaid :=
  OpenClaim.holds_of_wide 6 Try.f6 rfl rfl rfl rfl rfl rfl rfl ⟨rfl, rfl, rfl, rfl, rfl⟩ rfl rfl rfl rfl rfl (by kernel_rfl) Try.func6 (by kernel_rfl)
    (of_decide_eq_true (by kernel_rfl)) (by unfold Func.isWrapper; rw [if_neg (of_decide_eq_false (by kernel_rfl))]; exact ⟨rfl, rfl⟩)
    (fun os started H enc _ => HoldOrder_lifted os started H enc)

end Go.Proofs.Ytjiofgfdfljgmaa
