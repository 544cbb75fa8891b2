/- MailboxForced returns true for every input. No conditions. -/
import Derived.Test.YtblcgmihdgnhbaaLaw
import Derived.Test.YtblcgmihdgnhbaaOA
import Derived.Test.YtblcgmihdgnhbaaC5
namespace Go.Proofs.Ytblcgmihdgnhbaa
open Go.ChangeShapes Go.WideShapes Go.ChangeAt Go.RowKit

set_option maxRecDepth 100000 in
theorem MailboxForced_lifted (os : Os) (started : os.Started) (H : Type) (enc : TypeId × Value → H) :
    ReturnsInHanded {} Try.checked os 5 .any (Rows.mailboxForcedSpec.pre6 enc Try.prog Try.f5 [] false) (Rows.mailboxForcedSpec.post enc Try.prog Try.f5 false true false false) := by
  refine Law.lifted started (by kernel_rfl) Try.func5 (by kernel_rfl) (tb := 4) rfl Try.underlying4 rfl (fun H ds hl => ?_)
    (ChangeSpec.witness6 (enc := enc) (C := Try.checked) false ⟨#[], #[.int .i64 0, .slice none 0 0, .int .i64 0], []⟩ 8 (by kernel_rfl) (by kernel_rfl) (by kernel_rfl) (by kernel_rfl)) ?_
  · match ds, hl with
    | [d1, d2, d3], _ => rfl
  intro W base args ds p hval hA hwt _
  rw [Try.params5] at hA hval
  obtain ⟨v0, v1, v2, d0, d1, d2, p0, p1, p2, rfl, rfl, rfl, h0, h1, h2⟩ := trodAll_three hA
  obtain ⟨x, rfl, rfl, rfl, _⟩ := open_int Try.underlying3 (hval 0 3 v0 rfl rfl) h0
  obtain ⟨A, n, c, f, rfl, hn, hc, hsl⟩ := open_l (hval 1 22 v1 rfl rfl) h1
  obtain ⟨y, rfl, rfl, rfl, _⟩ := open_int Try.underlying3 (hval 2 3 v2 rfl rfl) h2
  have hb := cutI_bd (n := x) (lo := 1) (hi := 12) (by omega)
  have hb2 := cutI_bd (n := y) (lo := 0) (hi := 7) (by omega)
  exact Forced_any x y A n c (min n 12) (cutI x 1 12).toNat (cutI y 0 7).toNat f W hsl hn hc rfl (by omega) (by omega) (by omega) (by omega) (by omega)

theorem MailboxForced_holds : Rows.MailboxForcedSaid :=
  OpenClaim.holds_of_wide 5 Try.f5 rfl rfl rfl rfl rfl rfl rfl ⟨rfl, rfl, rfl, rfl, rfl⟩ rfl rfl rfl rfl rfl (by kernel_rfl) Try.func5 (by kernel_rfl)
    (of_decide_eq_true (by kernel_rfl)) (by unfold Func.isWrapper; rw [if_neg (of_decide_eq_false (by kernel_rfl))]; exact ⟨rfl, rfl⟩)
    (fun os started H enc _ => MailboxForced_lifted os started H enc)

end Go.Proofs.Ytblcgmihdgnhbaa
