/- RecordContinues returns true for every input. -/
import Derived.Test.YtahdjndpefclkaaDoorLf
import Derived.Test.YtahdjndpefclkaaDoorM3
import Derived.Test.YtahdjndpefclkaaDoorOEn
namespace Go.Proofs.YtahdjndpefclkaaDoor
open Go.ChangeShapes Go.WideShapes Go.ChangeAt Go.RowKit Go.ChangeMaps

set_option maxRecDepth 100000 in
theorem RecordContinues_lifted (os : Os) (started : os.Started) (H : Type) (enc : TypeId × Value → H) :
    ReturnsInHanded {} Tryd.checked os 5 .any (fun w args => (Rows.recordContinuesSpec.pre enc Tryd.prog Tryd.f5 [] false w args ∧ laidMetH Tryd.prog laid7 w) ∧ sizedMet enc Tryd.prog Tryd.f5 (OpenSpec.ofChange Rows.recordContinuesSpec) false w args) (Rows.recordContinuesSpec.post enc Tryd.prog Tryd.f5 false true false false) := by
  refine Law.lifted laid7 started (by kernel_rfl) Tryd.func5 (by kernel_rfl) (tb := 4) rfl Tryd.underlying4 rfl (fun H ds hl => ?_)
    (ChangeSpec.witness_shaped (enc := enc) (C := Tryd.checked) (os := os) (X := fun w _ => laidMetH Tryd.prog laid7 w) false (World.laidAll Tryd.prog os laid7) #[.slice none 0 0, .agg #[.int .i64 0, .int .i64 0, .string ByteArray.empty, .string ByteArray.empty]] 8 (World.laidAll_os _ _ _) (World.shaped_of_ZipB (by kernel_rfl) (by kernel_rfl)) (by kernel_rfl) (by kernel_rfl) (by kernel_rfl) (door_met os _)) ?_
  · match ds, hl with
    | [d0, d1], _ => rfl
  intro W base args ds p hval hA hwt hlt hlaid hsh
  rw [Tryd.params5] at hA hval
  have hE := env_of hlaid
  obtain ⟨v0, v1, d0, d1, p0, p1, rfl, rfl, rfl, h0, h1⟩ := trodAll_two hA
  obtain ⟨A, n, c, f, rfl, hnc, hcm, hS, hf, hnil, _⟩ := openEn (hval 0 34 v0 rfl rfl) h0
  obtain ⟨xn, t, k, x, rfl, b1, b2, b3, b4⟩ := open_e (hval 1 23 v1 rfl rfl) h1
  exact Continues_walk A n c (fun i => ⟨(f i).1, (f i).2.1, (f i).2.2.1, (f i).2.2.2⟩) ⟨xn, t, k, x⟩ W (hS.less hnc) (fun i hi => ⟨(hf i (by omega)).2.2.1, (hf i (by omega)).2.2.2, (hf i (by omega)).1, (hf i (by omega)).2.1⟩) hnc hcm hnil ⟨b1, b2, b3, b4⟩ hE

theorem RecordContinues_row : Rows.RecordContinuesSaid :=
  OpenClaim.holds_of_wide 5 Tryd.f5 rfl rfl rfl rfl rfl rfl rfl ⟨rfl, rfl, rfl, rfl, rfl⟩ rfl rfl rfl rfl rfl (by kernel_rfl) Tryd.func5 (by kernel_rfl)
    (of_decide_eq_true (by kernel_rfl)) (by unfold Func.isWrapper; rw [if_neg (of_decide_eq_false (by kernel_rfl))]; exact ⟨rfl, rfl⟩)
    (fun os started H enc _ => RecordContinues_lifted os started H enc)

theorem RecordContinues_holds : Rows.RecordContinuesCardSaid :=
  Claim7.holds_tied_plain_at .later [] [.data, .data, .data, .data, .sentinel, .sentinel, .pinned] true (true, "9a3ecfb3c6a7dfa18f4fbde5b5fbaa99f35eba3c76547a6a7b88310c4cd1d083") true
    RecordContinues_row (fun _ h => by cases h) (by kernel_rfl) (fun _ h => by cases h) recordContinues_row_tie rfl ⟨rfl, rfl⟩ (by kernel_rfl) rfl
    (fun f fn hf hfn => by
      obtain rfl : f = 5 := Option.some.inj ((show Tryd.prog.funcNamed "skyway/skywaykeep4.RecordContinues" = some 5 by kernel_rfl).symm.trans hf) |>.symm
      obtain rfl : fn = Tryd.f5 := (Option.some.inj (Tryd.func5.symm.trans hfn)).symm
      exact ⟨by kernel_rfl, fun j t ht => by
        rw [Tryd.params5] at ht
        have hm : t ∈ [34, 23] := by simpa using Array.mem_of_getElem? ht
        have hall : ([34, 23].all fun u => !Tryd.prog.wantsStandIn u) = true := by kernel_rfl
        exact (show Tryd.prog.wantsStandIn t = false by simpa using List.all_eq_true.1 hall t hm)⟩)
    (by kernel_rfl)
end Go.Proofs.YtahdjndpefclkaaDoor
