/- RulesSorted returns true for every input. No conditions. -/
import Derived.Test.YtdmecagdjbjgjaaLaw
import Derived.Test.YtdmecagdjbjgjaaOSc
import Derived.Test.YtdmecagdjbjgjaaOI
import Derived.Test.YtdmecagdjbjgjaaR40
namespace Go.Proofs.Ytdmecagdjbjgjaa
open Go.ChangeShapes Go.WideShapes Go.ChangeAt Go.RowKit

set_option maxRecDepth 100000 in
theorem RulesSorted_lifted (os : Os) (started : os.Started) (H : Type) (enc : TypeId × Value → H) :
    ReturnsInHanded {} Try.checked os 6 .any (Rows.rulesSortedSpec.pre6 enc Try.prog Try.f6 [] false) (Rows.rulesSortedSpec.post enc Try.prog Try.f6 false true false false) := by
  refine Law.lifted started (by kernel_rfl) Try.func6 (by kernel_rfl) (tb := 4) rfl Try.underlying4 rfl (fun H ds hl => ?_)
    (ChangeSpec.witness6 (enc := enc) (C := Try.checked) false ⟨#[], #[.slice none 0 0, .agg #[.int .i64 0, .slice none 0 0, .slice none 0 0]], []⟩ 8 (by kernel_rfl) (by kernel_rfl) (by kernel_rfl) (by kernel_rfl)) ?_
  · match ds, hl with
    | [d0, d1], _ => rfl
  intro W base args ds p hval hA hwt _
  rw [Try.params6] at hA hval
  obtain ⟨v0, v1, d0, d1, p0, p1, rfl, rfl, rfl, h0, h1⟩ := trodAll_two hA
  obtain ⟨A, n, c, f, rfl, hn, hc, hsl, _⟩ := open_l (hval 0 53 v0 rfl rfl) h0
  obtain ⟨s, rfl, hs⟩ := open_scene (hval 1 25 v1 rfl rfl) h1
  exact Sorted_walk A n c f s W hsl hn hc hs

theorem RulesSorted_holds : Rows.RulesSortedSaid :=
  OpenClaim.holds_of_wide 6 Try.f6 rfl rfl rfl rfl rfl rfl rfl ⟨rfl, rfl, rfl, rfl, rfl⟩ rfl rfl rfl rfl rfl (by kernel_rfl) Try.func6 (by kernel_rfl)
    (of_decide_eq_true (by kernel_rfl)) (by unfold Func.isWrapper; rw [if_neg (of_decide_eq_false (by kernel_rfl))]; exact ⟨rfl, rfl⟩)
    (fun os started H enc _ => RulesSorted_lifted os started H enc)

end Go.Proofs.Ytdmecagdjbjgjaa
