/- ScreenShifted returns true for every input. No conditions. -/
import Derived.Test.YtlkdjnmehnibmaaLaw
import Derived.Test.YtlkdjnmehnibmaaOV
import Derived.Test.YtlkdjnmehnibmaaOPo
import Derived.Test.YtlkdjnmehnibmaaG6
namespace Go.Proofs.Ytlkdjnmehnibmaa
open Go.ChangeShapes Go.WideShapes Go.ChangeAt Go.RowKit

set_option maxRecDepth 100000 in
theorem ScreenShifted_lifted (os : Os) (started : os.Started) (H : Type) (enc : TypeId × Value → H) :
    ReturnsInHanded {} Try.checked os 4 .any (Rows.screenShiftedSpec.pre6 enc Try.prog Try.f4 [] false) (Rows.screenShiftedSpec.post enc Try.prog Try.f4 false true false false) := by
  refine Law.lifted started (by kernel_rfl) Try.func4 (by kernel_rfl) (tb := 4) rfl Try.underlying4 rfl (fun H ds hl => ?_)
    (ChangeSpec.witness6 (enc := enc) (C := Try.checked) false ⟨#[], #[.agg #[.int .i64 0, .int .i64 0, .int .i64 0, .int .i64 0, .int .i64 0], .slice none 0 0, .slice none 0 0, .agg #[.int .i64 0, .int .i64 0]], []⟩ 8 (by kernel_rfl) (by kernel_rfl) (by kernel_rfl) (by kernel_rfl)) ?_
  · match ds, hl with
    | [d0, d1, d2, d3], _ => rfl
  intro W base args ds p hval hA hwt _
  rw [Try.params4] at hA hval
  obtain ⟨v0, v1, v2, v3, d0, d1, d2, d3, p0, p1, p2, p3, rfl, rfl, rfl, h0, h1, h2, h3⟩ := trodAll_four hA
  obtain ⟨cx, cy, sc, wd, ht, rfl⟩ := open_v (hval 0 25 v0 rfl rfl) h0
  obtain ⟨L, m, cL, N, F, rfl, hm1, hm2, hL⟩ := open_polys (hval 1 33 v1 rfl rfl) h1
  obtain ⟨A, n, c, f, rfl, hn1, hn2, hP, _⟩ := openPt (hval 2 34 v2 rfl rfl) h2
  obtain ⟨b1, b2, rfl⟩ := open_p (hval 3 23 v3 rfl rfl) h3
  exact SShifted_any cx cy sc wd ht b1 b2 L A m cL n c N F f W hL ⟨hm1, hm2⟩ (hP.less hn1) ⟨hn1, hn2⟩

theorem ScreenShifted_holds : Rows.ScreenShiftedSaid :=
  OpenClaim.holds_of_wide 4 Try.f4 rfl rfl rfl rfl rfl rfl rfl ⟨rfl, rfl, rfl, rfl, rfl⟩ rfl rfl rfl rfl rfl (by kernel_rfl) Try.func4 (by kernel_rfl)
    (of_decide_eq_true (by kernel_rfl)) (by unfold Func.isWrapper; rw [if_neg (of_decide_eq_false (by kernel_rfl))]; exact ⟨rfl, rfl⟩)
    (fun os started H enc _ => ScreenShifted_lifted os started H enc)

end Go.Proofs.Ytlkdjnmehnibmaa
