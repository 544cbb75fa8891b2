/- ClockVectors returns true for every input. No conditions. -/
import Derived.Test.YtchpgknaaofapaaLaw
import Derived.Test.YtchpgknaaofapaaOA
import Derived.Test.YtchpgknaaofapaaA8
namespace Go.Proofs.Ytchpgknaaofapaa
open Go.ChangeShapes Go.WideShapes Go.ChangeAt Go.RowKit

set_option maxRecDepth 100000 in
theorem ClockVectors_lifted (os : Os) (started : os.Started) (H : Type) (enc : TypeId × Value → H) :
    ReturnsInHanded {} Try.checked os 3 .any (Rows.clockVectorsSpec.pre6 enc Try.prog Try.f3 [] false) (Rows.clockVectorsSpec.post enc Try.prog Try.f3 false true false false) := by
  refine Law.lifted started (by kernel_rfl) Try.func3 (by kernel_rfl) (tb := 4) rfl Try.underlying4 rfl (fun H ds hl => ?_)
    (ChangeSpec.witness6 (enc := enc) (C := Try.checked) false ⟨#[], #[.slice none 0 0], []⟩ 8 (by kernel_rfl) (by kernel_rfl) (by kernel_rfl) (by kernel_rfl)) ?_
  · match ds, hl with
    | [d1], _ => rfl
  intro W base args ds p hval hA hwt _
  rw [Try.params3] at hA hval
  obtain ⟨v0, d0, rfl, rfl, h0⟩ := trodAll_one hA
  obtain ⟨A, n, c, lf, rfl, hn, hc, hlf, hev, hnil⟩ := open_evs (hval 0 22 v0 rfl rfl) h0
  exact Vecs_any A n c _ lf _ hlf rfl rfl W hev hn hc hnil

theorem ClockVectors_holds : Rows.ClockVectorsSaid :=
  OpenClaim.holds_of_wide 3 Try.f3 rfl rfl rfl rfl rfl rfl rfl ⟨rfl, rfl, rfl, rfl, rfl⟩ rfl rfl rfl rfl rfl (by kernel_rfl) Try.func3 (by kernel_rfl)
    (of_decide_eq_true (by kernel_rfl)) (by unfold Func.isWrapper; rw [if_neg (of_decide_eq_false (by kernel_rfl))]; exact ⟨rfl, rfl⟩)
    (fun os started H enc _ => ClockVectors_lifted os started H enc)

end Go.Proofs.Ytchpgknaaofapaa
