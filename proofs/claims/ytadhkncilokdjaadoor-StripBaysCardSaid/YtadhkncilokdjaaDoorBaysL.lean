/- StripBays returns true for every input. -/
import Derived.Test.YtadhkncilokdjaaDoorChangedL
import Derived.Test.YtadhkncilokdjaaDoorOI
import Derived.Test.YtadhkncilokdjaaDoorB4
namespace Go.Proofs.YtadhkncilokdjaaDoor
open Go.ChangeShapes Go.WideShapes Go.ChangeAt Go.RowKit

set_option maxRecDepth 100000 in
theorem StripBays_lifted (os : Os) (started : os.Started) (H : Type) (enc : TypeId × Value → H) :
    ReturnsInHanded {} Tryd.checked os 4 .any (fun w args => (Rows.stripBaysSpec.pre enc Tryd.prog Tryd.f4 [] false w args ∧ laidMetH Tryd.prog laidT w) ∧ sizedMet enc Tryd.prog Tryd.f4 (OpenSpec.ofChange Rows.stripBaysSpec) false w args) (Rows.stripBaysSpec.post enc Tryd.prog Tryd.f4 false true false false) := by
  refine Law.lifted laidT started (by kernel_rfl) Tryd.func4 (by kernel_rfl) (tb := 4) rfl Tryd.underlying4 rfl (fun H ds hl => ?_)
    (ChangeSpec.witness_shaped (enc := enc) (C := Tryd.checked) (os := os) (X := fun w _ => laidMetH Tryd.prog laidT w) false (World.doorLaid Tryd.prog 400 os) #[.slice none 0 0, .slice none 0 0] 8 rfl (World.shaped_of_RefB (by kernel_rfl) (by kernel_rfl)) (by kernel_rfl) (by kernel_rfl) (by kernel_rfl) (door_metT os _)) ?_
  · match ds, hl with
    | [d0, d1], _ => rfl
  intro W base args ds p hval hA hwt hlt hlaid hsh
  rw [Tryd.params4] at hA hval
  have hE := env_of hlaid
  obtain ⟨v0, v1, d0, d1, p0, p1, rfl, rfl, rfl, h0, h1⟩ := trodAll_two hA
  obtain ⟨A, n, c, f, rfl, hn, hc, hS, hf, hnil, _⟩ := openSt (hval 0 22 v0 rfl rfl) h0
  obtain ⟨A2, n2, c2, f2, rfl, hn2, hc2, hS2, _⟩ := open_l (hval 1 33 v1 rfl rfl) h1
  obtain ⟨g, hg1, hg2⟩ := sts_of hn hS hf
  exact SBays_any A n c g A2 n2 c2 f2 W ⟨hn, hc⟩ ⟨hn2, hc2⟩ hg1 hS2 hg2 hE

theorem StripBays_row : Rows.StripBaysSaid :=
  OpenClaim.holds_of_wide 4 Tryd.f4 rfl rfl rfl rfl rfl rfl rfl ⟨rfl, rfl, rfl, rfl, rfl⟩ rfl rfl rfl rfl rfl (by kernel_rfl) Tryd.func4 (by kernel_rfl)
    (of_decide_eq_true (by kernel_rfl)) (by unfold Func.isWrapper; rw [if_neg (of_decide_eq_false (by kernel_rfl))]; exact ⟨rfl, rfl⟩)
    (fun os started H enc _ => StripBays_lifted os started H enc)

theorem StripBays_holds : Rows.StripBaysCardSaid :=
  Claim7.holds_tied_plain_at .later [] [.data, .data, .data] true (true, "6fcf76016de47e6f8cbb88d1d2b459c2c30ee138bbaf83d8f3b2b228e3558b28") false
    StripBays_row (fun _ h => by cases h) (by kernel_rfl) (fun _ h => by cases h) stripBays_row_tie rfl ⟨rfl, rfl⟩ (by kernel_rfl) rfl
    (fun f fn hf hfn => by
      obtain rfl : f = 4 := Option.some.inj ((show Tryd.prog.funcNamed "skyway/skywaykeep4.StripBays" = some 4 by kernel_rfl).symm.trans hf) |>.symm
      obtain rfl : fn = Tryd.f4 := (Option.some.inj (Tryd.func4.symm.trans hfn)).symm
      exact ⟨by kernel_rfl, fun j t ht => by
        rw [Tryd.params4] at ht
        have hm : t ∈ [22, 33] := by simpa using Array.mem_of_getElem? ht
        have hall : ([22, 33].all fun u => !Tryd.prog.wantsStandIn u) = true := by kernel_rfl
        exact (show Tryd.prog.wantsStandIn t = false by simpa using List.all_eq_true.1 hall t hm)⟩)
    (by kernel_rfl)
end Go.Proofs.YtadhkncilokdjaaDoor
