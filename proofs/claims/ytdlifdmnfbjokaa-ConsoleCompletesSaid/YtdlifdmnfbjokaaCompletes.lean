/- ConsoleCompletes returns true for every input. No conditions. -/
import Derived.Test.YtdlifdmnfbjokaaLaw
import Derived.Test.YtdlifdmnfbjokaaA4
import Derived.ChangeMaps5
namespace Go.Proofs.Ytdlifdmnfbjokaa
open Go.ChangeShapes Go.WideShapes Go.ChangeAt Go.RowKit

set_option maxRecDepth 100000 in
theorem ConsoleCompletes_lifted (os : Os) (started : os.Started) (H : Type) (enc : TypeId × Value → H) :
    ReturnsInHanded {} Try.checked os 3 .any (Rows.consoleCompletesSpec.pre6 enc Try.prog Try.f3 [] false) (Rows.consoleCompletesSpec.post enc Try.prog Try.f3 false true false false) := by
  refine Law.lifted started (by kernel_rfl) Try.func3 (by kernel_rfl) (tb := 4) rfl Try.underlying4 rfl (fun H ds hl => ?_)
    (ChangeSpec.witness6 (enc := enc) (C := Try.checked) false ⟨#[], #[.string ByteArray.empty], []⟩ 8 (by kernel_rfl) (by kernel_rfl) (by kernel_rfl) (by kernel_rfl)) ?_
  · match ds, hl with
    | [d0], _ => rfl
  intro W base args ds p hval hA hwt _
  rw [Try.params3] at hA hval
  obtain ⟨v0, d0, rfl, rfl, h0⟩ := trodAll_one hA
  obtain ⟨s, rfl, hdz, hpz, hsz⟩ := Go.ChangeMaps.open_string Try.underlying9 (hval 0 9 v0 rfl rfl) h0
  exact CCompletes_any s W

theorem ConsoleCompletes_holds : Rows.ConsoleCompletesSaid :=
  OpenClaim.holds_of_wide 3 Try.f3 rfl rfl rfl rfl rfl rfl rfl ⟨rfl, rfl, rfl, rfl, rfl⟩ rfl rfl rfl rfl rfl (by kernel_rfl) Try.func3 (by kernel_rfl)
    (of_decide_eq_true (by kernel_rfl)) (by unfold Func.isWrapper; rw [if_neg (of_decide_eq_false (by kernel_rfl))]; exact ⟨rfl, rfl⟩)
    (fun os started H enc _ => ConsoleCompletes_lifted os started H enc)

end Go.Proofs.Ytdlifdmnfbjokaa
