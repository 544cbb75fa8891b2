/- ApproachPromised returns true for every input. No conditions. -/
import Derived.Test.YtmdfdjgeaemicaaLaw
import Derived.Test.YtmdfdjgeaemicaaOA
import Derived.Test.YtmdfdjgeaemicaaE7
namespace Go.Proofs.Ytmdfdjgeaemicaa
open Go.ChangeShapes Go.WideShapes Go.ChangeAt Go.RowKit

set_option maxRecDepth 100000 in
theorem ApproachPromised_lifted (os : Os) (started : os.Started) (H : Type) (enc : TypeId × Value → H) :
    ReturnsInHanded {} Try.checked os 6 .any (Rows.approachPromisedSpec.pre6 enc Try.prog Try.f6 [] false) (Rows.approachPromisedSpec.post enc Try.prog Try.f6 false true false false) := by
  refine Law.lifted started (by kernel_rfl) Try.func6 (by kernel_rfl) (tb := 4) rfl Try.underlying4 rfl (fun H ds hl => ?_)
    (ChangeSpec.witness6 (enc := enc) (C := Try.checked) false ⟨#[], #[.slice none 0 0, .agg #[.int .i64 0, .int .i64 0, .int .i64 0, .int .i64 0, .int .i64 0, .int .i64 0, .int .i64 0, .int .i64 0, .int .i64 0, .int .i64 0, .int .i64 0, .int .i64 0, .int .i64 0, .int .i64 0, .int .i64 0, .int .i64 0]], []⟩ 8 (by kernel_rfl) (by kernel_rfl) (by kernel_rfl) (by kernel_rfl)) ?_
  · match ds, hl with
    | [d1, d2], _ => rfl
  intro W base args ds p hval hA _ _
  rw [Try.params6] at hA hval
  obtain ⟨v0, v1, d0, d1, p0, p1, rfl, rfl, rfl, h0, h1⟩ := trodAll_two hA
  obtain ⟨A, n, c, its, rfl, hn, hc, hsl, _, _, _⟩ := open_items (hval 0 22 v0 rfl rfl) h0
  obtain ⟨G, g, rfl, hG⟩ := open_gaps (hval 1 24 v1 rfl rfl) h1
  have hq6 : min n 6 ≤ 6 := by omega
  by_cases hcode : checkCode (min n 6) its g = 0
  · rcases Nat.eq_zero_or_pos (min n 6) with h0 | h0
    · exact Prom_zero A n c (min n 6) its G g W (hsl.less hn) hn hc rfl hG hcode h0
    · cases ho : srch g its (min n 6) (min n 6) [] [] (List.replicate (min n 6) false) with
      | none => exact Prom_none A n c (min n 6) its G g W (hsl.less hn) hn hc rfl hG hcode h0 ho
      | some o => exact Prom_some A n c (min n 6) its G g o W (hsl.less hn) hn hc rfl hG hcode h0 ho
  · exact Prom_bad A n c (min n 6) its G g W (hsl.less hn) hn hc rfl hG hcode

theorem ApproachPromised_holds : Rows.ApproachPromisedSaid :=
  OpenClaim.holds_of_wide 6 Try.f6 rfl rfl rfl rfl rfl rfl rfl ⟨rfl, rfl, rfl, rfl, rfl⟩ rfl rfl rfl rfl rfl (by kernel_rfl) Try.func6 (by kernel_rfl)
    (of_decide_eq_true (by kernel_rfl)) (by unfold Func.isWrapper; rw [if_neg (of_decide_eq_false (by kernel_rfl))]; exact ⟨rfl, rfl⟩)
    (fun os started H enc _ => ApproachPromised_lifted os started H enc)

end Go.Proofs.Ytmdfdjgeaemicaa
