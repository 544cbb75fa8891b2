/- ApproachWithout returns true for every input. No conditions. -/
import Derived.Test.YtmdfdjgeaemicaaLaw
import Derived.Test.YtmdfdjgeaemicaaOA
import Derived.Test.YtmdfdjgeaemicaaB4
namespace Go.Proofs.Ytmdfdjgeaemicaa
open Go.ChangeShapes Go.WideShapes Go.ChangeAt Go.RowKit

set_option maxRecDepth 100000 in
theorem ApproachWithout_lifted (os : Os) (started : os.Started) (H : Type) (enc : TypeId × Value → H) :
    ReturnsInHanded {} Try.checked os 5 .any (Rows.approachWithoutSpec.pre6 enc Try.prog Try.f5 [] false) (Rows.approachWithoutSpec.post enc Try.prog Try.f5 false true false false) := by
  refine Law.lifted started (by kernel_rfl) Try.func5 (by kernel_rfl) (tb := 4) rfl Try.underlying4 rfl (fun H ds hl => ?_)
    (ChangeSpec.witness6 (enc := enc) (C := Try.checked) false ⟨#[], #[.slice none 0 0, .agg #[.int .i64 0, .int .i64 0, .int .i64 0, .int .i64 0, .int .i64 0, .int .i64 0, .int .i64 0, .int .i64 0, .int .i64 0, .int .i64 0, .int .i64 0, .int .i64 0, .int .i64 0, .int .i64 0, .int .i64 0, .int .i64 0], .int .i64 0], []⟩ 8 (by kernel_rfl) (by kernel_rfl) (by kernel_rfl) (by kernel_rfl)) ?_
  · match ds, hl with
    | [d1, d2, d3], _ => rfl
  intro W base args ds p hval hA hwt _
  rw [Try.params5] at hA hval
  obtain ⟨v0, v1, v2, d0, d1, d2, p0, p1, p2, rfl, rfl, rfl, h0, h1, h2⟩ := trodAll_three hA
  obtain ⟨A, n, c, its, rfl, hn, hc, hsl, _, hnil, hd⟩ := open_items (hval 0 22 v0 rfl rfl) h0
  obtain ⟨G, g, rfl, hG⟩ := open_gaps (hval 1 24 v1 rfl rfl) h1
  obtain ⟨x, rfl, rfl, rfl, _⟩ := open_int Try.underlying3 (hval 2 3 v2 rfl rfl) h2
  have hby := sized_rows hwt (j := 0) (t := 22) (e := 32) rfl rfl Try.underlying22 hd
  rw [show Try.prog.bytesOf 32 = 40 from by kernel_rfl] at hby
  unfold reachBytes at hby
  exact Without_any A n c its G g x W (hsl.less hn) (Nat.le_trans hn hc) (by omega) hnil hG

theorem ApproachWithout_holds : Rows.ApproachWithoutSaid :=
  OpenClaim.holds_of_wide 5 Try.f5 rfl rfl rfl rfl rfl rfl rfl ⟨rfl, rfl, rfl, rfl, rfl⟩ rfl rfl rfl rfl rfl (by kernel_rfl) Try.func5 (by kernel_rfl)
    (of_decide_eq_true (by kernel_rfl)) (by unfold Func.isWrapper; rw [if_neg (of_decide_eq_false (by kernel_rfl))]; exact ⟨rfl, rfl⟩)
    (fun os started H enc _ => ApproachWithout_lifted os started H enc)

end Go.Proofs.Ytmdfdjgeaemicaa
