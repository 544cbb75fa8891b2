/- ApproachGaps returns true for every input. No conditions. -/
import Derived.Test.YtmdfdjgeaemicaaLaw
import Derived.Test.YtmdfdjgeaemicaaOA
import Derived.Test.YtmdfdjgeaemicaaB2
namespace Go.Proofs.Ytmdfdjgeaemicaa
open Go.ChangeShapes Go.WideShapes Go.ChangeAt Go.RowKit

set_option maxRecDepth 100000 in
theorem ApproachGaps_lifted (os : Os) (started : os.Started) (H : Type) (enc : TypeId × Value → H) :
    ReturnsInHanded {} Try.checked os 3 .any (Rows.approachGapsSpec.pre6 enc Try.prog Try.f3 [] false) (Rows.approachGapsSpec.post enc Try.prog Try.f3 false true false false) := by
  refine Law.lifted started (by kernel_rfl) Try.func3 (by kernel_rfl) (tb := 4) rfl Try.underlying4 rfl (fun H ds hl => ?_)
    (ChangeSpec.witness6 (enc := enc) (C := Try.checked) false ⟨#[], #[.slice none 0 0, .agg #[.int .i64 0, .int .i64 0, .int .i64 0, .int .i64 0, .int .i64 0, .int .i64 0, .int .i64 0, .int .i64 0, .int .i64 0, .int .i64 0, .int .i64 0, .int .i64 0, .int .i64 0, .int .i64 0, .int .i64 0, .int .i64 0]], []⟩ 8 (by kernel_rfl) (by kernel_rfl) (by kernel_rfl) (by kernel_rfl)) ?_
  · match ds, hl with
    | [d1, d2], _ => rfl
  intro W base args ds p hval hA _ _
  rw [Try.params3] at hA hval
  obtain ⟨v0, v1, d0, d1, p0, p1, rfl, rfl, rfl, h0, h1⟩ := trodAll_two hA
  obtain ⟨A, n, c, its, rfl, hn, hc, hsl⟩ := open_items (hval 0 22 v0 rfl rfl) h0
  obtain ⟨G, g, rfl, hG⟩ := open_gaps (hval 1 24 v1 rfl rfl) h1
  by_cases hcode : checkCode n its g = 0
  · exact Gaps_ok A n c its G g W (hsl.less hn) (Nat.le_trans hn hc) hn hG hcode
  · exact Gaps_bad A n c its G g W (hsl.less hn) (Nat.le_trans hn hc) hG hcode

theorem ApproachGaps_holds : Rows.ApproachGapsSaid :=
  OpenClaim.holds_of_wide 3 Try.f3 rfl rfl rfl rfl rfl rfl rfl ⟨rfl, rfl, rfl, rfl, rfl⟩ rfl rfl rfl rfl rfl (by kernel_rfl) Try.func3 (by kernel_rfl)
    (of_decide_eq_true (by kernel_rfl)) (by unfold Func.isWrapper; rw [if_neg (of_decide_eq_false (by kernel_rfl))]; exact ⟨rfl, rfl⟩)
    (fun os started H enc _ => ApproachGaps_lifted os started H enc)

end Go.Proofs.Ytmdfdjgeaemicaa
