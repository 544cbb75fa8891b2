/- ContactOne returns true for every input. No conditions. -/
import Derived.Test.YtjlbhifkhbpddaaLaw
import Derived.Test.YtjlbhifkhbpddaaOCs
import Derived.Test.YtjlbhifkhbpddaaA6
namespace Go.Proofs.Ytjlbhifkhbpddaa
open Go.ChangeShapes Go.WideShapes Go.ChangeAt Go.RowKit

set_option maxRecDepth 100000 in
theorem ContactOne_lifted (os : Os) (started : os.Started) (H : Type) (enc : TypeId × Value → H) :
    ReturnsInHanded {} Try.checked os 3 .any (Rows.contactOneSpec.pre6 enc Try.prog Try.f3 [] false) (Rows.contactOneSpec.post enc Try.prog Try.f3 false true false false) := by
  refine Law.lifted started (by kernel_rfl) Try.func3 (by kernel_rfl) (tb := 4) rfl Try.underlying4 rfl (fun H ds hl => ?_)
    (ChangeSpec.witness6 (enc := enc) (C := Try.checked) false ⟨#[], #[.slice none 0 0], []⟩ 8 (by kernel_rfl) (by kernel_rfl) (by kernel_rfl) (by kernel_rfl)) ?_
  · match ds, hl with
    | [d1], _ => rfl
  intro W base args ds p hval hA hwt _
  rw [Try.params3] at hA hval
  obtain ⟨v0, d0, rfl, rfl, h0⟩ := trodAll_one hA
  obtain ⟨A, n, c, f, rfl, hn, hc, hsl, hwf, hnil, _⟩ := openCs (hval 0 22 v0 rfl rfl) h0
  exact One_any A n c (min n 12) f W (hsl.less hn) (fun i hi => (hwf i (by omega)).1) hn hc hnil rfl

theorem ContactOne_holds : Rows.ContactOneSaid :=
  OpenClaim.holds_of_wide 3 Try.f3 rfl rfl rfl rfl rfl rfl rfl ⟨rfl, rfl, rfl, rfl, rfl⟩ rfl rfl rfl rfl rfl (by kernel_rfl) Try.func3 (by kernel_rfl)
    (of_decide_eq_true (by kernel_rfl)) (by unfold Func.isWrapper; rw [if_neg (of_decide_eq_false (by kernel_rfl))]; exact ⟨rfl, rfl⟩)
    (fun os started H enc _ => ContactOne_lifted os started H enc)

end Go.Proofs.Ytjlbhifkhbpddaa
