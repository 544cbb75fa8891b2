/- SnapshotSpoilt returns true for every input. -/
import Derived.Test.YtojnojjiblcmcaaDoorLf
import Derived.Test.YtojnojjiblcmcaaDoorR6
namespace Go.Proofs.YtojnojjiblcmcaaDoor
open Go.ChangeShapes Go.WideShapes Go.ChangeAt Go.RowKit Go.ChangeMaps

set_option maxRecDepth 100000 in
theorem SnapshotSpoilt_lifted (os : Os) (started : os.Started) (H : Type) (enc : TypeId × Value → H) :
    ReturnsInHanded {} Tryd.checked os 6 .any (fun w args => (Rows.snapshotSpoiltSpec.pre enc Tryd.prog Tryd.f6 [] false w args ∧ laidMetH Tryd.prog laid7 w) ∧ sizedMet enc Tryd.prog Tryd.f6 (OpenSpec.ofChange Rows.snapshotSpoiltSpec) false w args) (Rows.snapshotSpoiltSpec.post enc Tryd.prog Tryd.f6 false true false false) := by
  refine Law.lifted laid7 started (by kernel_rfl) Tryd.func6 (by kernel_rfl) (tb := 4) rfl Tryd.underlying4 rfl (fun H ds hl => ?_)
    (ChangeSpec.witness_shaped (enc := enc) (C := Tryd.checked) (os := os) (X := fun w _ => laidMetH Tryd.prog laid7 w) false (World.laidAll Tryd.prog os laid7) #[.slice none 0 0, .int .i64 0, .int .i64 0, .int .u8 0] 8 (World.laidAll_os _ _ _) (World.shaped_of_ZipB (by kernel_rfl) (by kernel_rfl)) (by kernel_rfl) (by kernel_rfl) (by kernel_rfl) (door_met5 os _)) ?_
  · match ds, hl with
    | [d0, d1, d2, d3], _ => rfl
  intro W base args ds p hval hA hwt hlt hlaid hsh
  rw [Tryd.params6] at hA hval
  have hE := env_of hlaid hsh
  obtain ⟨v0, v1, v2, v3, d0, d1, d2, d3, p0, p1, p2, p3, rfl, rfl, rfl, h0, h1, h2, h3'⟩ := trodAll_four hA
  obtain ⟨A, n, c, f, rfl, hnc, hcm, hS, hf, hnil, _⟩ := openRw (hval 0 22 v0 rfl rfl) h0
  obtain ⟨z, rfl, rfl, rfl, _⟩ := open_int Tryd.underlying3 (hval 1 3 v1 rfl rfl) h1
  obtain ⟨a, rfl, rfl, rfl, _⟩ := open_int Tryd.underlying3 (hval 2 3 v2 rfl rfl) h2
  obtain ⟨y, rfl, rfl, rfl, hy⟩ := open_int Tryd.underlying5 (hval 3 5 v3 rfl rfl) h3'
  obtain ⟨l, hl⟩ := stAt_of hnc hcm hS hf hnil
  exact Spoilt_walk A n c l z a y W hl hnc hnil (by simpa [Lit.wf, IntKind.min, IntKind.max, IntKind.signed, IntKind.bits] using hy) hE

theorem SnapshotSpoilt_row : Rows.SnapshotSpoiltSaid :=
  OpenClaim.holds_of_wide 6 Tryd.f6 rfl rfl rfl rfl rfl rfl rfl ⟨rfl, rfl, rfl, rfl, rfl⟩ rfl rfl rfl rfl rfl (by kernel_rfl) Tryd.func6 (by kernel_rfl)
    (of_decide_eq_true (by kernel_rfl)) (by unfold Func.isWrapper; rw [if_neg (of_decide_eq_false (by kernel_rfl))]; exact ⟨rfl, rfl⟩)
    (fun os started H enc _ => SnapshotSpoilt_lifted os started H enc)

theorem SnapshotSpoilt_holds : Rows.SnapshotSpoiltCardSaid :=
  Claim7.holds_tied_plain_at .later [] [.data, .data, .data, .data, .pinned] true (true, "d4e8a51a2514cb0c90beadb1d217d9c2e98780b2d5a5878c2c4a8f9f43d2c7fc") false
    SnapshotSpoilt_row (fun _ h => by cases h) (by kernel_rfl) (fun _ h => by cases h) snapshotSpoilt_row_tie rfl ⟨rfl, rfl⟩ (by kernel_rfl) rfl
    (fun f fn hf hfn => by
      obtain rfl : f = 6 := Option.some.inj ((show Tryd.prog.funcNamed "skyway/skywaykeep4.SnapshotSpoilt" = some 6 by kernel_rfl).symm.trans hf) |>.symm
      obtain rfl : fn = Tryd.f6 := (Option.some.inj (Tryd.func6.symm.trans hfn)).symm
      exact ⟨by kernel_rfl, fun j t ht => by
        rw [Tryd.params6] at ht
        have hm : t ∈ [22, 3, 3, 5] := by simpa using Array.mem_of_getElem? ht
        have hall : ([22, 3, 3, 5].all fun u => !Tryd.prog.wantsStandIn u) = true := by kernel_rfl
        exact (show Tryd.prog.wantsStandIn t = false by simpa using List.all_eq_true.1 hall t hm)⟩)
    (by kernel_rfl)
end Go.Proofs.YtojnojjiblcmcaaDoor
