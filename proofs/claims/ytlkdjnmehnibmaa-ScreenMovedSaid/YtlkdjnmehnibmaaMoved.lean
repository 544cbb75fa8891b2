/- ScreenMoved returns true for every input. No conditions. -/
import Derived.Test.YtlkdjnmehnibmaaLaw
import Derived.Test.YtlkdjnmehnibmaaOC
import Derived.Test.YtlkdjnmehnibmaaA12
namespace Go.Proofs.Ytlkdjnmehnibmaa
open Go.ChangeShapes Go.WideShapes Go.ChangeAt Go.RowKit

set_option maxRecDepth 100000 in
theorem ScreenMoved_lifted (os : Os) (started : os.Started) (H : Type) (enc : TypeId × Value → H) :
    ReturnsInHanded {} Try.checked os 6 .any (Rows.screenMovedSpec.pre6 enc Try.prog Try.f6 [] false) (Rows.screenMovedSpec.post enc Try.prog Try.f6 false true false false) := by
  refine Law.lifted started (by kernel_rfl) Try.func6 (by kernel_rfl) (tb := 4) rfl Try.underlying4 rfl (fun H ds hl => ?_)
    (ChangeSpec.witness6 (enc := enc) (C := Try.checked) false ⟨#[], #[.agg #[.int .i64 0, .int .i64 0], .agg #[.int .i64 0, .int .i64 0], .agg #[.int .i64 0, .int .i64 0]], []⟩ 8 (by kernel_rfl) (by kernel_rfl) (by kernel_rfl) (by kernel_rfl)) ?_
  · match ds, hl with
    | [d0, d1, d2], _ => rfl
  intro W base args ds p hval hA hwt _
  rw [Try.params6] at hA hval
  obtain ⟨v0, v1, v2, d0, d1, d2, p0, p1, p2, rfl, rfl, rfl, h0, h1, h2⟩ := trodAll_three hA
  obtain ⟨x1, y1, rfl⟩ := open_c (hval 0 27 v0 rfl rfl) h0
  obtain ⟨x2, y2, rfl⟩ := open_c (hval 1 27 v1 rfl rfl) h1
  obtain ⟨x3, y3, rfl⟩ := open_c (hval 2 27 v2 rfl rfl) h2
  exact SMoved_any x1 y1 x2 y2 x3 y3 W

theorem ScreenMoved_holds : Rows.ScreenMovedSaid :=
  OpenClaim.holds_of_wide 6 Try.f6 rfl rfl rfl rfl rfl rfl rfl ⟨rfl, rfl, rfl, rfl, rfl⟩ rfl rfl rfl rfl rfl (by kernel_rfl) Try.func6 (by kernel_rfl)
    (of_decide_eq_true (by kernel_rfl)) (by unfold Func.isWrapper; rw [if_neg (of_decide_eq_false (by kernel_rfl))]; exact ⟨rfl, rfl⟩)
    (fun os started H enc _ => ScreenMoved_lifted os started H enc)

end Go.Proofs.Ytlkdjnmehnibmaa
