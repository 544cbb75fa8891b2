/- ContactHeard returns true for every input. No conditions. -/
import Derived.Test.YtjlbhifkhbpddaaLaw
import Derived.Test.YtjlbhifkhbpddaaOCs
import Derived.Test.YtjlbhifkhbpddaaB1
namespace Go.Proofs.Ytjlbhifkhbpddaa
open Go.ChangeShapes Go.WideShapes Go.ChangeAt Go.RowKit

set_option maxRecDepth 100000 in
theorem ContactHeard_lifted (os : Os) (started : os.Started) (H : Type) (enc : TypeId × Value → H) :
    ReturnsInHanded {} Try.checked os 4 .any (Rows.contactHeardSpec.pre6 enc Try.prog Try.f4 [] false) (Rows.contactHeardSpec.post enc Try.prog Try.f4 false true false false) := by
  refine Law.lifted started (by kernel_rfl) Try.func4 (by kernel_rfl) (tb := 4) rfl Try.underlying4 rfl (fun H ds hl => ?_)
    (ChangeSpec.witness6 (enc := enc) (C := Try.checked) false ⟨#[], #[.slice none 0 0, .int .i64 0, .int .i64 0, .int .i64 0], []⟩ 8 (by kernel_rfl) (by kernel_rfl) (by kernel_rfl) (by kernel_rfl)) ?_
  · match ds, hl with
    | [d0, d1, d2, d3], _ => rfl
  intro W base args ds p hval hA hwt _
  rw [Try.params4] at hA hval
  obtain ⟨v0, v1, v2, v3, d0, d1, d2, d3, p0, p1, p2, p3, rfl, rfl, rfl, h0, h1, h2, h3⟩ := trodAll_four hA
  obtain ⟨A, n, c, f, rfl, hn, hc, hsl, hwf, hnil, _⟩ := openCs (hval 0 22 v0 rfl rfl) h0
  obtain ⟨x1, rfl, rfl, rfl, hx1⟩ := open_int Try.underlying3 (hval 1 3 v1 rfl rfl) h1
  obtain ⟨x2, rfl, rfl, rfl, hx2⟩ := open_int Try.underlying3 (hval 2 3 v2 rfl rfl) h2
  obtain ⟨x3, rfl, rfl, rfl, hx3⟩ := open_int Try.underlying3 (hval 3 3 v3 rfl rfl) h3
  exact Heard_any A n c (min n 8) f x1 x2 x3 W (hsl.less hn) (fun i hi => (hwf i (by omega)).1) hn hc hnil rfl

theorem ContactHeard_holds : Rows.ContactHeardSaid :=
  OpenClaim.holds_of_wide 4 Try.f4 rfl rfl rfl rfl rfl rfl rfl ⟨rfl, rfl, rfl, rfl, rfl⟩ rfl rfl rfl rfl rfl (by kernel_rfl) Try.func4 (by kernel_rfl)
    (of_decide_eq_true (by kernel_rfl)) (by unfold Func.isWrapper; rw [if_neg (of_decide_eq_false (by kernel_rfl))]; exact ⟨rfl, rfl⟩)
    (fun os started H enc _ => ContactHeard_lifted os started H enc)

end Go.Proofs.Ytjlbhifkhbpddaa
