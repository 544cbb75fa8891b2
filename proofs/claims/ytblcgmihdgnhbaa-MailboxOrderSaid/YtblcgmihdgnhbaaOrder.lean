/- MailboxOrder returns true for every input. No conditions. -/
import Derived.Test.YtblcgmihdgnhbaaLaw
import Derived.Test.YtblcgmihdgnhbaaOA
import Derived.Test.YtblcgmihdgnhbaaB3
namespace Go.Proofs.Ytblcgmihdgnhbaa
open Go.ChangeShapes Go.WideShapes Go.ChangeAt Go.RowKit

set_option maxRecDepth 100000 in
theorem MailboxOrder_lifted (os : Os) (started : os.Started) (H : Type) (enc : TypeId × Value → H) :
    ReturnsInHanded {} Try.checked os 4 .any (Rows.mailboxOrderSpec.pre6 enc Try.prog Try.f4 [] false) (Rows.mailboxOrderSpec.post enc Try.prog Try.f4 false true false false) := by
  refine Law.lifted started (by kernel_rfl) Try.func4 (by kernel_rfl) (tb := 4) rfl Try.underlying4 rfl (fun H ds hl => ?_)
    (ChangeSpec.witness6 (enc := enc) (C := Try.checked) false ⟨#[], #[.int .i64 0, .slice none 0 0], []⟩ 8 (by kernel_rfl) (by kernel_rfl) (by kernel_rfl) (by kernel_rfl)) ?_
  · match ds, hl with
    | [d1, d2], _ => rfl
  intro W base args ds p hval hA hwt _
  rw [Try.params4] at hA hval
  obtain ⟨v0, v1, d0, d1, p0, p1, rfl, rfl, rfl, h0, h1⟩ := trodAll_two hA
  obtain ⟨x, rfl, rfl, rfl, _⟩ := open_int Try.underlying3 (hval 0 3 v0 rfl rfl) h0
  obtain ⟨A, n, c, f, rfl, hn, hc, hsl⟩ := open_l (hval 1 22 v1 rfl rfl) h1
  have hb := cutI_bd (n := x) (lo := 1) (hi := 12) (by omega)
  exact Order_any x A n c (min n 12) (cutI x 1 12).toNat f W hsl hn hc rfl (by omega) (by omega) (by omega)

theorem MailboxOrder_holds : Rows.MailboxOrderSaid :=
  OpenClaim.holds_of_wide 4 Try.f4 rfl rfl rfl rfl rfl rfl rfl ⟨rfl, rfl, rfl, rfl, rfl⟩ rfl rfl rfl rfl rfl (by kernel_rfl) Try.func4 (by kernel_rfl)
    (of_decide_eq_true (by kernel_rfl)) (by unfold Func.isWrapper; rw [if_neg (of_decide_eq_false (by kernel_rfl))]; exact ⟨rfl, rfl⟩)
    (fun os started H enc _ => MailboxOrder_lifted os started H enc)

end Go.Proofs.Ytblcgmihdgnhbaa
