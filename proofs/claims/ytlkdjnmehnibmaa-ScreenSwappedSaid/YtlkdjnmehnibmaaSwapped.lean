/- ScreenSwapped returns true for every input. No conditions. -/
import Derived.Test.YtlkdjnmehnibmaaLaw
import Derived.Test.YtlkdjnmehnibmaaOC
import Derived.Test.YtlkdjnmehnibmaaA10
namespace Go.Proofs.Ytlkdjnmehnibmaa
open Go.ChangeShapes Go.WideShapes Go.ChangeAt Go.RowKit

set_option maxRecDepth 100000 in
theorem ScreenSwapped_lifted (os : Os) (started : os.Started) (H : Type) (enc : TypeId × Value → H) :
    ReturnsInHanded {} Try.checked os 5 .any (Rows.screenSwappedSpec.pre6 enc Try.prog Try.f5 [] false) (Rows.screenSwappedSpec.post enc Try.prog Try.f5 false true false false) := by
  refine Law.lifted started (by kernel_rfl) Try.func5 (by kernel_rfl) (tb := 4) rfl Try.underlying4 rfl (fun H ds hl => ?_)
    (ChangeSpec.witness6 (enc := enc) (C := Try.checked) false ⟨#[], #[.agg #[.int .i64 0, .int .i64 0], .agg #[.int .i64 0, .int .i64 0]], []⟩ 8 (by kernel_rfl) (by kernel_rfl) (by kernel_rfl) (by kernel_rfl)) ?_
  · match ds, hl with
    | [d0, d1], _ => rfl
  intro W base args ds p hval hA hwt _
  rw [Try.params5] at hA hval
  obtain ⟨v0, v1, d0, d1, p0, p1, rfl, rfl, rfl, h0, h1⟩ := trodAll_two hA
  obtain ⟨x1, y1, rfl⟩ := open_c (hval 0 27 v0 rfl rfl) h0
  obtain ⟨x2, y2, rfl⟩ := open_c (hval 1 27 v1 rfl rfl) h1
  exact SSwapped_any x1 y1 x2 y2 W

theorem ScreenSwapped_holds : Rows.ScreenSwappedSaid :=
  OpenClaim.holds_of_wide 5 Try.f5 rfl rfl rfl rfl rfl rfl rfl ⟨rfl, rfl, rfl, rfl, rfl⟩ rfl rfl rfl rfl rfl (by kernel_rfl) Try.func5 (by kernel_rfl)
    (of_decide_eq_true (by kernel_rfl)) (by unfold Func.isWrapper; rw [if_neg (of_decide_eq_false (by kernel_rfl))]; exact ⟨rfl, rfl⟩)
    (fun os started H enc _ => ScreenSwapped_lifted os started H enc)

end Go.Proofs.Ytlkdjnmehnibmaa
