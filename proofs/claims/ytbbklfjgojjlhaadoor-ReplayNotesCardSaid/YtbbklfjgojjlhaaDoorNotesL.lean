/- ReplayNotes returns true for every input. -/
import Derived.Test.YtbbklfjgojjlhaaDoorLf
import Derived.Test.YtbbklfjgojjlhaaDoorK11
import Derived.Test.YtbbklfjgojjlhaaDoorOEn
namespace Go.Proofs.YtbbklfjgojjlhaaDoor
open Go.ChangeShapes Go.WideShapes Go.ChangeAt Go.RowKit Go.ChangeMaps

set_option maxRecDepth 100000 in
theorem ReplayNotes_lifted (os : Os) (started : os.Started) (H : Type) (enc : TypeId × Value → H) :
    ReturnsInHanded {} Tryd.checked os 6 .any (fun w args => (Rows.replayNotesSpec.pre enc Tryd.prog Tryd.f6 [] false w args ∧ laidMetH Tryd.prog laid7 w) ∧ sizedMet enc Tryd.prog Tryd.f6 (OpenSpec.ofChange Rows.replayNotesSpec) false w args) (Rows.replayNotesSpec.post enc Tryd.prog Tryd.f6 false true false false) := by
  refine Law.lifted laid7 started (by kernel_rfl) Tryd.func6 (by kernel_rfl) (tb := 4) rfl Tryd.underlying4 rfl (fun H ds hl => ?_)
    (ChangeSpec.witness_shaped (enc := enc) (C := Tryd.checked) (os := os) (X := fun w _ => laidMetH Tryd.prog laid7 w) false (World.laidAll Tryd.prog os laid7) #[.slice none 0 0, .slice none 0 0] 8 (World.laidAll_os _ _ _) (World.shaped_of_ZipB (by kernel_rfl) (by kernel_rfl)) (by kernel_rfl) (by kernel_rfl) (by kernel_rfl) (door_met os _)) ?_
  · match ds, hl with
    | [d0, d1], _ => rfl
  intro W base args ds p hval hA hwt hlt hlaid hsh
  rw [Tryd.params6] at hA hval
  have hE := env_of hlaid hsh
  obtain ⟨v0, v1, d0, d1, p0, p1, rfl, rfl, rfl, h0, h1⟩ := trodAll_two hA
  obtain ⟨A, n, c, f, rfl, hnc, hcm, hS, hf, hnil, _⟩ := openRw (hval 0 22 v0 rfl rfl) h0
  obtain ⟨B, m, d, g, rfl, hmd, hdm, hG, hg, hnilB, _⟩ := openEn (hval 1 23 v1 rfl rfl) h1
  obtain ⟨l, hl⟩ := stAt_of hnc hcm hS hf hnil
  exact Notes_walk A n c l B m d (fun i => ⟨(g i).1, (g i).2.1, (g i).2.2.1, (g i).2.2.2⟩) W hl (hG.less hmd) hmd hdm hnilB (fun i hi => ⟨(hg i (by omega)).2.2.1, (hg i (by omega)).2.2.2, (hg i (by omega)).1, (hg i (by omega)).2.1⟩) hE

theorem ReplayNotes_row : Rows.ReplayNotesSaid :=
  OpenClaim.holds_of_wide 6 Tryd.f6 rfl rfl rfl rfl rfl rfl rfl ⟨rfl, rfl, rfl, rfl, rfl⟩ rfl rfl rfl rfl rfl (by kernel_rfl) Tryd.func6 (by kernel_rfl)
    (of_decide_eq_true (by kernel_rfl)) (by unfold Func.isWrapper; rw [if_neg (of_decide_eq_false (by kernel_rfl))]; exact ⟨rfl, rfl⟩)
    (fun os started H enc _ => ReplayNotes_lifted os started H enc)

theorem ReplayNotes_holds : Rows.ReplayNotesCardSaid :=
  Claim7.holds_tied_plain_at .later [] [.data, .data, .data, .data, .sentinel, .sentinel, .pinned] true (true, "55c48d7af79f81507494c2637afa3c27c5a78d6b2e18ba58c6462eff042d152b") true
    ReplayNotes_row (fun _ h => by cases h) (by kernel_rfl) (fun _ h => by cases h) replayNotes_row_tie rfl ⟨rfl, rfl⟩ (by kernel_rfl) rfl
    (fun f fn hf hfn => by
      obtain rfl : f = 6 := Option.some.inj ((show Tryd.prog.funcNamed "skyway/skywaykeep4.ReplayNotes" = some 6 by kernel_rfl).symm.trans hf) |>.symm
      obtain rfl : fn = Tryd.f6 := (Option.some.inj (Tryd.func6.symm.trans hfn)).symm
      exact ⟨by kernel_rfl, fun j t ht => by
        rw [Tryd.params6] at ht
        have hm : t ∈ [22, 23] := by simpa using Array.mem_of_getElem? ht
        have hall : ([22, 23].all fun u => !Tryd.prog.wantsStandIn u) = true := by kernel_rfl
        exact (show Tryd.prog.wantsStandIn t = false by simpa using List.all_eq_true.1 hall t hm)⟩)
    (by kernel_rfl)
end Go.Proofs.YtbbklfjgojjlhaaDoor
