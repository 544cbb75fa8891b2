/- ApproachSorted returns true for every input. No conditions. -/
import Derived.Test.YtmdfdjgeaemicaaLaw
import Derived.Test.YtmdfdjgeaemicaaOA
import Derived.Test.YtmdfdjgeaemicaaF3
namespace Go.Proofs.Ytmdfdjgeaemicaa
open Go.ChangeShapes Go.WideShapes Go.ChangeAt Go.RowKit

set_option maxRecDepth 100000 in
theorem ApproachSorted_lifted (os : Os) (started : os.Started) (H : Type) (enc : TypeId × Value → H) :
    ReturnsInHanded {} Try.checked os 7 .any (Rows.approachSortedSpec.pre6 enc Try.prog Try.f7 [] false) (Rows.approachSortedSpec.post enc Try.prog Try.f7 false true false false) := by
  refine Law.lifted started (by kernel_rfl) Try.func7 (by kernel_rfl) (tb := 4) rfl Try.underlying4 rfl (fun H ds hl => ?_)
    (ChangeSpec.witness6 (enc := enc) (C := Try.checked) false ⟨#[], #[.slice none 0 0, .int .i64 0], []⟩ 8 (by kernel_rfl) (by kernel_rfl) (by kernel_rfl) (by kernel_rfl)) ?_
  · match ds, hl with
    | [d1, d2], _ => rfl
  intro W base args ds p hval hA hwt _
  rw [Try.params7] at hA hval
  obtain ⟨v0, v1, d0, d1, p0, p1, rfl, rfl, rfl, h0, h1⟩ := trodAll_two hA
  obtain ⟨A, n, c, its, rfl, hn, hc, hsl, _, hnil, _⟩ := open_items (hval 0 22 v0 rfl rfl) h0
  obtain ⟨d, rfl, rfl, rfl, _⟩ := open_int Try.underlying3 (hval 1 3 v1 rfl rfl) h1
  have hx := cutI_bd (n := d) (lo := 0) (hi := 200) (by omega)
  obtain ⟨x, hxe⟩ : ∃ x, cutI d 0 200 = x := ⟨_, rfl⟩
  rw [hxe] at hx
  by_cases hcode : checkCode n its (fun _ => x) = 0
  · obtain ⟨h32, _, hits⟩ := checkCode_inv hcode
    have hsl2 : Sl W W.heap.size 4 A n (fun i => (vi (vaOf its n) i).row) := ((hsl.less hn)).congr (fun i hi => by unfold vi; rw [vaOf_get hits i hi])
    rcases Nat.eq_zero_or_pos n with h0 | h0
    · exact Sorted_zero A n c (vaOf its n) d x W (Nat.le_trans hn hc) hxe hsl2 vaOf_len h32 hx hnil h0
    · exact Sorted_ok A n c (vaOf its n) d x W (Nat.le_trans hn hc) hxe hsl2 vaOf_len h32 hx hnil h0
  · exact Sorted_bad A n c its d x W (Nat.le_trans hn hc) hxe (hsl.less hn) hcode

theorem ApproachSorted_holds : Rows.ApproachSortedSaid :=
  OpenClaim.holds_of_wide 7 Try.f7 rfl rfl rfl rfl rfl rfl rfl ⟨rfl, rfl, rfl, rfl, rfl⟩ rfl rfl rfl rfl rfl (by kernel_rfl) Try.func7 (by kernel_rfl)
    (of_decide_eq_true (by kernel_rfl)) (by unfold Func.isWrapper; rw [if_neg (of_decide_eq_false (by kernel_rfl))]; exact ⟨rfl, rfl⟩)
    (fun os started H enc _ => ApproachSorted_lifted os started H enc)

end Go.Proofs.Ytmdfdjgeaemicaa
