/- ReplayUndone returns true for every input. -/
import Derived.Test.YtbbklfjgojjlhaaDoorLf
import Derived.Test.YtbbklfjgojjlhaaDoorK10
namespace Go.Proofs.YtbbklfjgojjlhaaDoor
open Go.ChangeShapes Go.WideShapes Go.ChangeAt Go.RowKit Go.ChangeMaps

set_option maxRecDepth 100000 in
theorem ReplayUndone_lifted (os : Os) (started : os.Started) (H : Type) (enc : TypeId × Value → H) :
    ReturnsInHanded {} Tryd.checked os 5 .any (fun w args => (Rows.replayUndoneSpec.pre enc Tryd.prog Tryd.f5 [] false w args ∧ laidMetH Tryd.prog laid7 w) ∧ sizedMet enc Tryd.prog Tryd.f5 (OpenSpec.ofChange Rows.replayUndoneSpec) false w args) (Rows.replayUndoneSpec.post enc Tryd.prog Tryd.f5 false true false false) := by
  refine Law.lifted laid7 started (by kernel_rfl) Tryd.func5 (by kernel_rfl) (tb := 4) rfl Tryd.underlying4 rfl (fun H ds hl => ?_)
    (ChangeSpec.witness_shaped (enc := enc) (C := Tryd.checked) (os := os) (X := fun w _ => laidMetH Tryd.prog laid7 w) false (World.laidAll Tryd.prog os laid7) #[.slice none 0 0, .string ByteArray.empty, .int .i64 0] 8 (World.laidAll_os _ _ _) (World.shaped_of_ZipB (by kernel_rfl) (by kernel_rfl)) (by kernel_rfl) (by kernel_rfl) (by kernel_rfl) (door_met os _)) ?_
  · match ds, hl with
    | [d0, d1, d2], _ => rfl
  intro W base args ds p hval hA hwt hlt hlaid hsh
  rw [Tryd.params5] at hA hval
  have hE := env_of hlaid hsh
  obtain ⟨v0, v1, v2, d0, d1, d2, p0, p1, p2, rfl, rfl, rfl, h0, h1, h2⟩ := trodAll_three hA
  obtain ⟨A, n, c, f, rfl, hnc, hcm, hS, hf, hnil, _⟩ := openRw (hval 0 22 v0 rfl rfl) h0
  obtain ⟨s, rfl, rfl, rfl, _⟩ := open_string Tryd.underlying9 (hval 1 9 v1 rfl rfl) h1
  obtain ⟨z, rfl, rfl, rfl, _⟩ := open_int Tryd.underlying3 (hval 2 3 v2 rfl rfl) h2
  obtain ⟨l, hl⟩ := stAt_of hnc hcm hS hf hnil
  have hz := sized_string hwt (j := 1) (t := 9) (by rw [Tryd.params5]; rfl) rfl
  have hr := reachBytes_lt
  have hs' : s.size ≤ 140737488355328 := by
    rw [Array.length_toList] at hz
    have : s.size = s.data.size := rfl
    omega
  exact Undone_walk A n c l s z W hl hs' hE

theorem ReplayUndone_row : Rows.ReplayUndoneSaid :=
  OpenClaim.holds_of_wide 5 Tryd.f5 rfl rfl rfl rfl rfl rfl rfl ⟨rfl, rfl, rfl, rfl, rfl⟩ rfl rfl rfl rfl rfl (by kernel_rfl) Tryd.func5 (by kernel_rfl)
    (of_decide_eq_true (by kernel_rfl)) (by unfold Func.isWrapper; rw [if_neg (of_decide_eq_false (by kernel_rfl))]; exact ⟨rfl, rfl⟩)
    (fun os started H enc _ => ReplayUndone_lifted os started H enc)

theorem ReplayUndone_holds : Rows.ReplayUndoneCardSaid :=
  Claim7.holds_tied_plain_at .later [] [.data, .data, .data, .data, .sentinel, .sentinel, .pinned] true (true, "55c48d7af79f81507494c2637afa3c27c5a78d6b2e18ba58c6462eff042d152b") true
    ReplayUndone_row (fun _ h => by cases h) (by kernel_rfl) (fun _ h => by cases h) replayUndone_row_tie rfl ⟨rfl, rfl⟩ (by kernel_rfl) rfl
    (fun f fn hf hfn => by
      obtain rfl : f = 5 := Option.some.inj ((show Tryd.prog.funcNamed "skyway/skywaykeep4.ReplayUndone" = some 5 by kernel_rfl).symm.trans hf) |>.symm
      obtain rfl : fn = Tryd.f5 := (Option.some.inj (Tryd.func5.symm.trans hfn)).symm
      exact ⟨by kernel_rfl, fun j t ht => by
        rw [Tryd.params5] at ht
        have hm : t ∈ [22, 9, 3] := by simpa using Array.mem_of_getElem? ht
        have hall : ([22, 9, 3].all fun u => !Tryd.prog.wantsStandIn u) = true := by kernel_rfl
        exact (show Tryd.prog.wantsStandIn t = false by simpa using List.all_eq_true.1 hall t hm)⟩)
    (by kernel_rfl)
end Go.Proofs.YtbbklfjgojjlhaaDoor
