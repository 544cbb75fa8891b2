/- ClockOrder returns true for every input. No conditions. -/
import Derived.Test.YtchpgknaaofapaaLaw
import Derived.Test.YtchpgknaaofapaaOA
import Derived.Test.YtchpgknaaofapaaA19
namespace Go.Proofs.Ytchpgknaaofapaa
open Go.ChangeShapes Go.WideShapes Go.ChangeAt Go.RowKit

set_option maxRecDepth 100000 in
theorem ClockOrder_lifted (os : Os) (started : os.Started) (H : Type) (enc : TypeId × Value → H) :
    ReturnsInHanded {} Try.checked os 7 .any (Rows.clockOrderSpec.pre6 enc Try.prog Try.f7 [] false) (Rows.clockOrderSpec.post enc Try.prog Try.f7 false true false false) := by
  refine Law.lifted started (by kernel_rfl) Try.func7 (by kernel_rfl) (tb := 4) rfl Try.underlying4 rfl (fun H ds hl => ?_)
    (ChangeSpec.witness6 (enc := enc) (C := Try.checked) false ⟨#[], #[.slice none 0 0], []⟩ 8 (by kernel_rfl) (by kernel_rfl) (by kernel_rfl) (by kernel_rfl)) ?_
  · match ds, hl with
    | [d0], _ => rfl
  intro W base args ds p hval hA hwt _
  rw [Try.params7] at hA hval
  obtain ⟨v0, d0, rfl, rfl, h0⟩ := trodAll_one hA
  obtain ⟨A0, n0, c0, lf, rfl, hn0, hc0, hlf, hev, hnil0⟩ := open_evs (hval 0 22 v0 rfl rfl) h0
  exact COrder_any A0 n0 c0 _ lf _ hlf rfl rfl W hev hn0 hc0 hnil0

theorem ClockOrder_holds : Rows.ClockOrderSaid :=
  OpenClaim.holds_of_wide 7 Try.f7 rfl rfl rfl rfl rfl rfl rfl ⟨rfl, rfl, rfl, rfl, rfl⟩ rfl rfl rfl rfl rfl (by kernel_rfl) Try.func7 (by kernel_rfl)
    (of_decide_eq_true (by kernel_rfl)) (by unfold Func.isWrapper; rw [if_neg (of_decide_eq_false (by kernel_rfl))]; exact ⟨rfl, rfl⟩)
    (fun os started H enc _ => ClockOrder_lifted os started H enc)

end Go.Proofs.Ytchpgknaaofapaa
