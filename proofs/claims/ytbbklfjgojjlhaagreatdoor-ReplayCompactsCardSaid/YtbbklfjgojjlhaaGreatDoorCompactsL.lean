/- ReplayCompacts returns true for every input. -/
import Derived.Test.YtbbklfjgojjlhaaGreatDoorLf
import Derived.Test.YtbbklfjgojjlhaaGreatDoorC2
import Derived.Test.YtbbklfjgojjlhaaGreatDoorOEn
namespace Go.Proofs.YtbbklfjgojjlhaaGreatDoor
open Go.ChangeShapes Go.WideShapes Go.ChangeAt Go.RowKit Go.ChangeMaps

set_option maxRecDepth 100000 in
theorem ReplayCompacts_lifted (os : Os) (started : os.Started) (H : Type) (enc : TypeId × Value → H) :
    ReturnsInHanded {} Tryz.checked os 3 .any (fun w args => (Rows.replayCompactsSpec.pre enc Tryz.prog Tryz.f3 [] false w args ∧ laidMetH Tryz.prog laid7 w) ∧ sizedMet enc Tryz.prog Tryz.f3 (OpenSpec.ofChange Rows.replayCompactsSpec) false w args) (Rows.replayCompactsSpec.post enc Tryz.prog Tryz.f3 false true false false) := by
  refine Law.lifted laid7 started (by kernel_rfl) Tryz.func3 (by kernel_rfl) (tb := 4) rfl Tryz.underlying4 rfl (fun H ds hl => ?_)
    (ChangeSpec.witness_shaped (enc := enc) (C := Tryz.checked) (os := os) (X := fun w _ => laidMetH Tryz.prog laid7 w) false (World.laidAll Tryz.prog os laid7) #[.slice none 0 0, .int .i64 0] 8 (World.laidAll_os _ _ _) (World.shaped_of_ZipB (by kernel_rfl) (by kernel_rfl)) (by kernel_rfl) (by kernel_rfl) (by kernel_rfl) (door_met os _)) ?_
  · match ds, hl with
    | [d0, d1], _ => rfl
  intro W base args ds p hval hA hwt hlt hlaid hsh
  rw [Tryz.params3] at hA hval
  have hE := env_of hlaid hsh
  obtain ⟨v0, v1, d0, d1, p0, p1, rfl, rfl, rfl, h0, h1⟩ := trodAll_two hA
  obtain ⟨B, m, d, g, rfl, hmd, hdm, hG, hg, hnilB, _⟩ := openEn (hval 0 22 v0 rfl rfl) h0
  obtain ⟨z, rfl, rfl, rfl, _⟩ := open_int Tryz.underlying3 (hval 1 3 v1 rfl rfl) h1
  exact Compacts_walk B m d (fun i => ⟨(g i).1, (g i).2.1, (g i).2.2.1, (g i).2.2.2⟩) z W (hG.less hmd) (fun i hi => ⟨(hg i (by omega)).2.2.1, (hg i (by omega)).2.2.2, (hg i (by omega)).1, (hg i (by omega)).2.1⟩) hmd hdm hnilB hE

theorem ReplayCompacts_row : Rows.ReplayCompactsSaid :=
  OpenClaim.holds_of_wide 3 Tryz.f3 rfl rfl rfl rfl rfl rfl rfl ⟨rfl, rfl, rfl, rfl, rfl⟩ rfl rfl rfl rfl rfl (by kernel_rfl) Tryz.func3 (by kernel_rfl)
    (of_decide_eq_true (by kernel_rfl)) (by unfold Func.isWrapper; rw [if_neg (of_decide_eq_false (by kernel_rfl))]; exact ⟨rfl, rfl⟩)
    (fun os started H enc _ => ReplayCompacts_lifted os started H enc)

theorem ReplayCompacts_holds : Rows.ReplayCompactsCardSaid :=
  Claim7.holds_tied_plain_at .later [] [.data, .data, .data, .data, .sentinel, .sentinel, .pinned] true (true, "415ec45711f5375bc703a4e640d5fcda47c9796c621b0b2b0704a4f1c63d4995") true
    ReplayCompacts_row (fun _ h => by cases h) (by kernel_rfl) (fun _ h => by cases h) replayCompacts_row_tie rfl ⟨rfl, rfl⟩ (by kernel_rfl) rfl
    (fun f fn hf hfn => by
      obtain rfl : f = 3 := Option.some.inj ((show Tryz.prog.funcNamed "skyway/skywaykeep4.ReplayCompacts" = some 3 by kernel_rfl).symm.trans hf) |>.symm
      obtain rfl : fn = Tryz.f3 := (Option.some.inj (Tryz.func3.symm.trans hfn)).symm
      exact ⟨by kernel_rfl, fun j t ht => by
        rw [Tryz.params3] at ht
        have hm : t ∈ [22, 3] := by simpa using Array.mem_of_getElem? ht
        have hall : ([22, 3].all fun u => !Tryz.prog.wantsStandIn u) = true := by kernel_rfl
        exact (show Tryz.prog.wantsStandIn t = false by simpa using List.all_eq_true.1 hall t hm)⟩)
    (by kernel_rfl)
end Go.Proofs.YtbbklfjgojjlhaaGreatDoor
