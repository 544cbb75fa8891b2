/- TopCentre returns true for every input. -/
import Derived.Test.YtaebebpldkciiaaGreatDoorLf
import Derived.Test.YtaebebpldkciiaaGreatDoorOI
import Derived.Test.YtaebebpldkciiaaGreatDoorOIn
import Derived.Test.YtaebebpldkciiaaGreatDoorS19
namespace Go.Proofs.YtaebebpldkciiaaGreatDoor
open Go.ChangeShapes Go.WideShapes Go.ChangeAt Go.RowKit Go.ChangeMaps

set_option maxRecDepth 100000 in
theorem TopCentre_lifted (os : Os) (started : os.Started) (H : Type) (enc : TypeId × Value → H) :
    ReturnsInHanded {} Tryz.checked os 3 .any (fun w args => (Rows.topCentreSpec.pre enc Tryz.prog Tryz.f3 [] false w args ∧ laidMetH Tryz.prog laid7 w) ∧ sizedMet enc Tryz.prog Tryz.f3 (OpenSpec.ofChange Rows.topCentreSpec) false w args) (Rows.topCentreSpec.post enc Tryz.prog Tryz.f3 false true false false) := by
  refine Law.lifted laid7 started (by kernel_rfl) Tryz.func3 (by kernel_rfl) (tb := 4) rfl Tryz.underlying4 rfl (fun H ds hl => ?_)
    (ChangeSpec.witness_shaped (enc := enc) (C := Tryz.checked) (os := os) (X := fun w _ => laidMetH Tryz.prog laid7 w) false (World.laidAll Tryz.prog os laid7) #[.agg #[.int .i64 0, .int .i64 0, .int .i64 0, .int .i64 0, .int .i64 0, .int .i64 0, .int .i64 0, .int .i64 0, .int .i64 0, .int .i64 0, .int .i64 0, .int .i64 0, .int .i64 0, .int .i64 0, .int .i64 0, .int .i64 0, .int .i64 0, .int .i64 0], .slice none 0 0, .slice none 0 0] 8 (World.laidAll_os _ _ _) (World.shaped_of_ZipB (by kernel_rfl) (by kernel_rfl)) (by kernel_rfl) (by kernel_rfl) (by kernel_rfl) (door_met os _)) ?_
  · match ds, hl with
    | [d0, d1, d2], _ => rfl
  intro W base args ds p hval hA hwt hlt hlaid hsh
  rw [Tryz.params3] at hA hval
  have hW : SeaW W := ⟨(ks_at hlaid.tail.tail.tail.tail).1, (ks_at hlaid.tail.tail.tail.tail).2, tab_at hlaid.tail hlaid.tail.tail hlaid.tail.tail.tail⟩
  obtain ⟨v0, v1, v2, d0, d1, d2, p0, p1, p2, rfl, rfl, rfl, h0, h1, h2⟩ := trodAll_three hA
  obtain ⟨S, rfl⟩ := open_setup (hval 0 27 v0 rfl rfl) h0
  obtain ⟨A, n, cA, l, hs, rfl, hI, hn, hc, hnil⟩ := open_inps (hval 1 28 v1 rfl rfl) h1
  obtain ⟨pA, pn, pc, pk, rfl, hpn, hpc, hp, hpnil⟩ := open_l (hval 2 29 v2 rfl rfl) h2
  exact TopCentre_any S l hs n A cA pA pn pc pk W hW ⟨hI, ⟨hn, hc⟩, hnil⟩ ⟨hp, ⟨hpn, hpc⟩, hpnil⟩

theorem TopCentre_row : Rows.TopCentreSaid :=
  OpenClaim.holds_of_wide 3 Tryz.f3 rfl rfl rfl rfl rfl rfl rfl ⟨rfl, rfl, rfl, rfl, rfl⟩ rfl rfl rfl rfl rfl (by kernel_rfl) Tryz.func3 (by kernel_rfl)
    (of_decide_eq_true (by kernel_rfl)) (by unfold Func.isWrapper; rw [if_neg (of_decide_eq_false (by kernel_rfl))]; exact ⟨rfl, rfl⟩)
    (fun os started H enc _ => TopCentre_lifted os started H enc)

theorem TopCentre_holds : Rows.TopCentreCardSaid :=
  Claim7.holds_tied_plain_at .later [] [.data, .data, .data, .data, .data, .pinned] true (true, "b60ba911c76117f3f22dfa764f057c9700a57528149170f104fa12fd18804aa1") true
    TopCentre_row (fun _ h => by cases h) (by kernel_rfl) (fun _ h => by cases h) topCentre_row_tie rfl ⟨rfl, rfl⟩ (by kernel_rfl) rfl
    (fun f fn hf hfn => by
      obtain rfl : f = 3 := Option.some.inj ((show Tryz.prog.funcNamed "skyway/skywaytop.TopCentre" = some 3 by kernel_rfl).symm.trans hf) |>.symm
      obtain rfl : fn = Tryz.f3 := (Option.some.inj (Tryz.func3.symm.trans hfn)).symm
      exact ⟨by kernel_rfl, fun j t ht => by
        rw [Tryz.params3] at ht
        have hm : t ∈ [27, 28, 29] := by simpa using Array.mem_of_getElem? ht
        have hall : ([27, 28, 29].all fun u => !Tryz.prog.wantsStandIn u) = true := by kernel_rfl
        exact (show Tryz.prog.wantsStandIn t = false by simpa using List.all_eq_true.1 hall t hm)⟩)
    (by kernel_rfl)
end Go.Proofs.YtaebebpldkciiaaGreatDoor
