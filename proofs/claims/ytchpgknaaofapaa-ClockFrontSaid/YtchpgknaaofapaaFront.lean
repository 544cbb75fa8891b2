/- ClockFront returns true for every input. No conditions. -/
import Derived.Test.YtchpgknaaofapaaLaw
import Derived.Test.YtchpgknaaofapaaOA
import Derived.Test.YtchpgknaaofapaaA13
namespace Go.Proofs.Ytchpgknaaofapaa
open Go.ChangeShapes Go.WideShapes Go.ChangeAt Go.RowKit

set_option maxRecDepth 100000 in
theorem ClockFront_lifted (os : Os) (started : os.Started) (H : Type) (enc : TypeId × Value → H) :
    ReturnsInHanded {} Try.checked os 5 .any (Rows.clockFrontSpec.pre6 enc Try.prog Try.f5 [] false) (Rows.clockFrontSpec.post enc Try.prog Try.f5 false true false false) := by
  refine Law.lifted started (by kernel_rfl) Try.func5 (by kernel_rfl) (tb := 4) rfl Try.underlying4 rfl (fun H ds hl => ?_)
    (ChangeSpec.witness6 (enc := enc) (C := Try.checked) false ⟨#[], #[.slice none 0 0, .int .i64 0], []⟩ 8 (by kernel_rfl) (by kernel_rfl) (by kernel_rfl) (by kernel_rfl)) ?_
  · match ds, hl with
    | [d0, d1], _ => rfl
  intro W base args ds p hval hA hwt _
  rw [Try.params5] at hA hval
  obtain ⟨v0, v1, d0, d1, p0, p1, rfl, rfl, rfl, h0, h1⟩ := trodAll_two hA
  obtain ⟨A0, n0, c0, lf, rfl, hn0, hc0, hlf, hev, hnil0⟩ := open_evs (hval 0 22 v0 rfl rfl) h0
  obtain ⟨x1, rfl, rfl, rfl, hx1⟩ := open_int Try.underlying3 (hval 1 3 v1 rfl rfl) h1
  exact Front_any A0 n0 c0 _ lf _ x1 hlf rfl rfl W hev hn0 hc0 hnil0

theorem ClockFront_holds : Rows.ClockFrontSaid :=
  OpenClaim.holds_of_wide 5 Try.f5 rfl rfl rfl rfl rfl rfl rfl ⟨rfl, rfl, rfl, rfl, rfl⟩ rfl rfl rfl rfl rfl (by kernel_rfl) Try.func5 (by kernel_rfl)
    (of_decide_eq_true (by kernel_rfl)) (by unfold Func.isWrapper; rw [if_neg (of_decide_eq_false (by kernel_rfl))]; exact ⟨rfl, rfl⟩)
    (fun os started H enc _ => ClockFront_lifted os started H enc)

end Go.Proofs.Ytchpgknaaofapaa
