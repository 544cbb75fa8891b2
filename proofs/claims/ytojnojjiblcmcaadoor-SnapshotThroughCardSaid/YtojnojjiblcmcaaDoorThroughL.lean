/- SnapshotThrough returns true for every input. -/
import Derived.Test.YtojnojjiblcmcaaDoorLf3
import Derived.Test.YtojnojjiblcmcaaDoorD9
namespace Go.Proofs.YtojnojjiblcmcaaDoor
open Go.ChangeShapes Go.WideShapes Go.ChangeAt Go.RowKit Go.ChangeMaps

set_option maxRecDepth 100000 in
theorem SnapshotThrough_lifted (os : Os) (started : os.Started) (H : Type) (enc : TypeId × Value → H) :
    ReturnsInHanded {} Tryd.checked os 8 .any (fun w args => (Rows.snapshotThroughSpec.pre enc Tryd.prog Tryd.f8 [] false w args ∧ laidMetH Tryd.prog laidT w) ∧ sizedMet enc Tryd.prog Tryd.f8 (OpenSpec.ofChange Rows.snapshotThroughSpec) false w args) (Rows.snapshotThroughSpec.post enc Tryd.prog Tryd.f8 false true false false) := by
  refine Law.lifted laidT started (by kernel_rfl) Tryd.func8 (by kernel_rfl) (tb := 4) rfl Tryd.underlying4 rfl (fun H ds hl => ?_)
    (ChangeSpec.witness_shaped (enc := enc) (C := Tryd.checked) (os := os) (X := fun w _ => laidMetH Tryd.prog laidT w) false (World.doorLaid Tryd.prog 400 os) #[.slice none 0 0, .slice none 0 0, .slice none 0 0] 8 rfl (World.shaped_of_RefB (by kernel_rfl) (by kernel_rfl)) (by kernel_rfl) (by kernel_rfl) (by kernel_rfl) (door_metT os _)) ?_
  · match ds, hl with
    | [d0, d1, d2], _ => rfl
  intro W base args ds p hval hA hwt hlt hlaid hsh
  rw [Tryd.params8] at hA hval
  have hE := env_of3 hlaid hsh
  obtain ⟨v0, v1, v2, d0, d1, d2, p0, p1, p2, rfl, rfl, rfl, h0, h1, h2⟩ := trodAll_three hA
  obtain ⟨A, n, c, f, rfl, hn, hc, hS, hf, hnil, _⟩ := openRw (hval 0 22 v0 rfl rfl) h0
  obtain ⟨B, p', d, f2, rfl, hn2, hc2, hS2, hf2, hnil2, _⟩ := openRw (hval 1 22 v1 rfl rfl) h1
  obtain ⟨C, q, e, f3, rfl, hn3, hc3, hS3, hf3, hnil3, _⟩ := openRw (hval 2 22 v2 rfl rfl) h2
  obtain ⟨l, hl⟩ := stAt_of hn hc hS hf hnil
  obtain ⟨l2, hl2⟩ := stAt_of hn2 hc2 hS2 hf2 hnil2
  obtain ⟨l3, hl3⟩ := stAt_of hn3 hc3 hS3 hf3 hnil3
  exact Through_walk A B C n p' q c d e l l2 l3 W hl hl2 hl3 hE

theorem SnapshotThrough_row : Rows.SnapshotThroughSaid :=
  OpenClaim.holds_of_wide 8 Tryd.f8 rfl rfl rfl rfl rfl rfl rfl ⟨rfl, rfl, rfl, rfl, rfl⟩ rfl rfl rfl rfl rfl (by kernel_rfl) Tryd.func8 (by kernel_rfl)
    (of_decide_eq_true (by kernel_rfl)) (by unfold Func.isWrapper; rw [if_neg (of_decide_eq_false (by kernel_rfl))]; exact ⟨rfl, rfl⟩)
    (fun os started H enc _ => SnapshotThrough_lifted os started H enc)

theorem SnapshotThrough_holds : Rows.SnapshotThroughCardSaid :=
  Claim7.holds_tied_plain_at .later [] [.data, .data, .data] true (true, "d4e8a51a2514cb0c90beadb1d217d9c2e98780b2d5a5878c2c4a8f9f43d2c7fc") false
    SnapshotThrough_row (fun _ h => by cases h) (by kernel_rfl) (fun _ h => by cases h) snapshotThrough_row_tie rfl ⟨rfl, rfl⟩ (by kernel_rfl) rfl
    (fun f fn hf hfn => by
      obtain rfl : f = 8 := Option.some.inj ((show Tryd.prog.funcNamed "skyway/skywaykeep4.SnapshotThrough" = some 8 by kernel_rfl).symm.trans hf) |>.symm
      obtain rfl : fn = Tryd.f8 := (Option.some.inj (Tryd.func8.symm.trans hfn)).symm
      exact ⟨by kernel_rfl, fun j t ht => by
        rw [Tryd.params8] at ht
        have hm : t ∈ [22, 22, 22] := by simpa using Array.mem_of_getElem? ht
        have hall : ([22, 22, 22].all fun u => !Tryd.prog.wantsStandIn u) = true := by kernel_rfl
        exact (show Tryd.prog.wantsStandIn t = false by simpa using List.all_eq_true.1 hall t hm)⟩)
    (by kernel_rfl)
end Go.Proofs.YtojnojjiblcmcaaDoor
