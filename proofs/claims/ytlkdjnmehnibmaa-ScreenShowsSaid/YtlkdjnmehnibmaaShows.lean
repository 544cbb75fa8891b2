/- ScreenShows returns true for every input. No conditions. -/
import Derived.Test.YtlkdjnmehnibmaaLaw
import Derived.Test.YtlkdjnmehnibmaaOV
import Derived.Test.YtlkdjnmehnibmaaOPt
import Derived.Test.YtlkdjnmehnibmaaH3
namespace Go.Proofs.Ytlkdjnmehnibmaa
open Go.ChangeShapes Go.WideShapes Go.ChangeAt Go.RowKit

set_option maxRecDepth 100000 in
theorem ScreenShows_lifted (os : Os) (started : os.Started) (H : Type) (enc : TypeId × Value → H) :
    ReturnsInHanded {} Try.checked os 7 .any (Rows.screenShowsSpec.pre6 enc Try.prog Try.f7 [] false) (Rows.screenShowsSpec.post enc Try.prog Try.f7 false true false false) := by
  refine Law.lifted started (by kernel_rfl) Try.func7 (by kernel_rfl) (tb := 4) rfl Try.underlying4 rfl (fun H ds hl => ?_)
    (ChangeSpec.witness6 (enc := enc) (C := Try.checked) false ⟨#[], #[.agg #[.int .i64 0, .int .i64 0, .int .i64 0, .int .i64 0, .int .i64 0], .slice none 0 0], []⟩ 8 (by kernel_rfl) (by kernel_rfl) (by kernel_rfl) (by kernel_rfl)) ?_
  · match ds, hl with
    | [d0, d1], _ => rfl
  intro W base args ds p hval hA hwt _
  rw [Try.params7] at hA hval
  obtain ⟨v0, v1, d0, d1, p0, p1, rfl, rfl, rfl, h0, h1⟩ := trodAll_two hA
  obtain ⟨cx, cy, sc, wd, ht, rfl⟩ := open_v (hval 0 25 v0 rfl rfl) h0
  obtain ⟨A, n, c, f, rfl, hn1, hn2, hP, _⟩ := openPt (hval 1 34 v1 rfl rfl) h1
  exact SShows_any cx cy sc wd ht A n c f W hn1 (hP.less hn1)

theorem ScreenShows_holds : Rows.ScreenShowsSaid :=
  OpenClaim.holds_of_wide 7 Try.f7 rfl rfl rfl rfl rfl rfl rfl ⟨rfl, rfl, rfl, rfl, rfl⟩ rfl rfl rfl rfl rfl (by kernel_rfl) Try.func7 (by kernel_rfl)
    (of_decide_eq_true (by kernel_rfl)) (by unfold Func.isWrapper; rw [if_neg (of_decide_eq_false (by kernel_rfl))]; exact ⟨rfl, rfl⟩)
    (fun os started H enc _ => ScreenShows_lifted os started H enc)

end Go.Proofs.Ytlkdjnmehnibmaa
