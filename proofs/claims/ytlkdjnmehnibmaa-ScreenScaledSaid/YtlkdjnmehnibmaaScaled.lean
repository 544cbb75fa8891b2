/- ScreenScaled returns true for every input. No conditions. -/
import Derived.Test.YtlkdjnmehnibmaaLaw
import Derived.Test.YtlkdjnmehnibmaaOV
import Derived.Test.YtlkdjnmehnibmaaA7
namespace Go.Proofs.Ytlkdjnmehnibmaa
open Go.ChangeShapes Go.WideShapes Go.ChangeAt Go.RowKit

set_option maxRecDepth 100000 in
theorem ScreenScaled_lifted (os : Os) (started : os.Started) (H : Type) (enc : TypeId × Value → H) :
    ReturnsInHanded {} Try.checked os 3 .any (Rows.screenScaledSpec.pre6 enc Try.prog Try.f3 [] false) (Rows.screenScaledSpec.post enc Try.prog Try.f3 false true false false) := by
  refine Law.lifted started (by kernel_rfl) Try.func3 (by kernel_rfl) (tb := 4) rfl Try.underlying4 rfl (fun H ds hl => ?_)
    (ChangeSpec.witness6 (enc := enc) (C := Try.checked) false ⟨#[], #[.agg #[.int .i64 0, .int .i64 0, .int .i64 0, .int .i64 0, .int .i64 0], .agg #[.int .i64 0, .int .i64 0], .int .i64 0], []⟩ 8 (by kernel_rfl) (by kernel_rfl) (by kernel_rfl) (by kernel_rfl)) ?_
  · match ds, hl with
    | [d0, d1, d2], _ => rfl
  intro W base args ds p hval hA hwt _
  rw [Try.params3] at hA hval
  obtain ⟨v0, v1, v2, d0, d1, d2, p0, p1, p2, rfl, rfl, rfl, h0, h1, h2⟩ := trodAll_three hA
  obtain ⟨cx, cy, sc, wd, ht, rfl⟩ := open_v (hval 0 25 v0 rfl rfl) h0
  obtain ⟨x, y, rfl⟩ := open_p (hval 1 23 v1 rfl rfl) h1
  obtain ⟨x2, rfl, rfl, rfl, hx2⟩ := open_int Try.underlying3 (hval 2 3 v2 rfl rfl) h2
  exact SScaled_any cx cy sc wd ht x y x2 W

theorem ScreenScaled_holds : Rows.ScreenScaledSaid :=
  OpenClaim.holds_of_wide 3 Try.f3 rfl rfl rfl rfl rfl rfl rfl ⟨rfl, rfl, rfl, rfl, rfl⟩ rfl rfl rfl rfl rfl (by kernel_rfl) Try.func3 (by kernel_rfl)
    (of_decide_eq_true (by kernel_rfl)) (by unfold Func.isWrapper; rw [if_neg (of_decide_eq_false (by kernel_rfl))]; exact ⟨rfl, rfl⟩)
    (fun os started H enc _ => ScreenScaled_lifted os started H enc)

end Go.Proofs.Ytlkdjnmehnibmaa
