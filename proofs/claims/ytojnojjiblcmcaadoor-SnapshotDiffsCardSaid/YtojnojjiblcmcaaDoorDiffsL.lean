/- SnapshotDiffs returns true for every input. -/
import Derived.Test.YtojnojjiblcmcaaDoorD11
import Derived.Test.YtojnojjiblcmcaaDoorLf3
namespace Go.Proofs.YtojnojjiblcmcaaDoor
open Go.RowKit

set_option maxRecDepth 100000 in
set_option maxHeartbeats 4000000 in
theorem Diffs_bad (A B : Option Addr) (n p c d : Nat) (a b : List Rw) (w : World) (ha : StAt a A n w) (hb : StAt b B p w) (hv : EnvS w) (h : diffC a b ≠ 0) :
    Calls Tryd.prog 7 #[.slice A n c, .slice B p d] w fun v w' => v = .returned (.bool true) ∧ Below w.heap.size w w' := by
  have hD := fun (W : World) (hW : Below w.heap.size w W) => Diff_at A B n p c d a b W (ha.below hW) (hb.below hW)
  rw [diffR_bad h] at hD
  simp only [List.length_nil] at hD
  have HCa := Lib.hid (fun (W : World) (hW : Below w.heap.size w W) => Check_any A n c a W (ha.below hW).sl ha.len ha.z ha.le)
  have HCb := Lib.hid (fun (W : World) (hW : Below w.heap.size w W) => Check_any B p d b W (hb.below hW).sl hb.len hb.z hb.le)
  unfold CheckP at HCa HCb
  have HV := Lib.hid hv
  have hdc : diffC a b = if checkL a ≠ 0 then checkL a else checkL b := rfl
  generalize diffC a b = e at *
  generalize checkL a = x at *
  generalize checkL b = y at *
  have t0 : (e != 0) = true := by simpa using h
  have HD := Lib.hid hD
  clear hD ha hb hv
  by_cases hx : x = 0
  · rw [if_neg (fun h => h hx)] at hdc
    subst hx
    subst hdc
    have t1 : ((0 : Int) == e) = false := by simpa using Ne.symm h
    clear h
    go_enter Tryd.func7, Tryd.ntmps7
    go_wp2_with (first
      | (have _h := B3; go_at_call 16; go_loud (refine (HCb.out _ B3).mono ?_; rintro v w4 ⟨rfl, hb4⟩; have B4 := bstep B3 hb4))
      | (have _h := B2; go_at_call 16; go_loud (refine (HCa.out _ B2).mono ?_; rintro v w3 ⟨rfl, hb3⟩; have B3 := bstep B2 hb3))
      | (have _h := B1; go_at_call 9; go_loud (refine (Fact_any _ (HV.out.below B1).tab (HV.out.below B1).big).mono ?_; rintro v w2 ⟨rfl, hb2⟩; have B2 := bstep B1 hb2))
      | (go_at_call 19; go_loud (refine (HD.out _ (Below.refl _ _)).mono ?_; rintro v w1 ⟨E1, g1, rfl, s1, B1⟩; clear s1)))
    go_ret
    exact ⟨rfl, B4⟩
  · rw [if_pos hx] at hdc
    subst hdc
    clear h hx
    go_enter Tryd.func7, Tryd.ntmps7
    go_wp2_with (first
      | (have _h := B2; go_at_call 16; go_loud (refine (HCa.out _ B2).mono ?_; rintro v w3 ⟨rfl, hb3⟩; have B3 := bstep B2 hb3))
      | (have _h := B1; go_at_call 9; go_loud (refine (Fact_any _ (HV.out.below B1).tab (HV.out.below B1).big).mono ?_; rintro v w2 ⟨rfl, hb2⟩; have B2 := bstep B1 hb2))
      | (go_at_call 19; go_loud (refine (HD.out _ (Below.refl _ _)).mono ?_; rintro v w1 ⟨E1, g1, rfl, s1, B1⟩; clear s1)))
    go_ret
    exact ⟨rfl, B3⟩

theorem Diffs_walk (A B : Option Addr) (n p c d : Nat) (a b : List Rw) (w : World) (ha : StAt a A n w) (hb : StAt b B p w) (hv : EnvS w) :
    Calls Tryd.prog 7 #[.slice A n c, .slice B p d] w fun v w' => v = .returned (.bool true) ∧ Below w.heap.size w w' := by
  by_cases h : diffC a b = 0
  · obtain ⟨h1, h2⟩ := diffC_zero.1 h
    exact Diffs_good A B n p c d a b w ha hb hv h1 h2
  · exact Diffs_bad A B n p c d a b w ha hb hv h
end Go.Proofs.YtojnojjiblcmcaaDoor

namespace Go.Proofs.YtojnojjiblcmcaaDoor
open Go.ChangeShapes Go.WideShapes Go.ChangeAt Go.RowKit Go.ChangeMaps

set_option maxRecDepth 100000 in
theorem SnapshotDiffs_lifted (os : Os) (started : os.Started) (H : Type) (enc : TypeId × Value → H) :
    ReturnsInHanded {} Tryd.checked os 7 .any (fun w args => (Rows.snapshotDiffsSpec.pre enc Tryd.prog Tryd.f7 [] false w args ∧ laidMetH Tryd.prog laidT w) ∧ sizedMet enc Tryd.prog Tryd.f7 (OpenSpec.ofChange Rows.snapshotDiffsSpec) false w args) (Rows.snapshotDiffsSpec.post enc Tryd.prog Tryd.f7 false true false false) := by
  refine Law.lifted laidT started (by kernel_rfl) Tryd.func7 (by kernel_rfl) (tb := 4) rfl Tryd.underlying4 rfl (fun H ds hl => ?_)
    (ChangeSpec.witness_shaped (enc := enc) (C := Tryd.checked) (os := os) (X := fun w _ => laidMetH Tryd.prog laidT w) false (World.doorLaid Tryd.prog 400 os) #[.slice none 0 0, .slice none 0 0] 8 rfl (World.shaped_of_RefB (by kernel_rfl) (by kernel_rfl)) (by kernel_rfl) (by kernel_rfl) (by kernel_rfl) (door_metT os _)) ?_
  · match ds, hl with
    | [d0, d1], _ => rfl
  intro W base args ds p hval hA hwt hlt hlaid hsh
  rw [Tryd.params7] at hA hval
  have hE := env_of3 hlaid hsh
  obtain ⟨v0, v1, d0, d1, p0, p1, rfl, rfl, rfl, h0, h1⟩ := trodAll_two hA
  obtain ⟨A, n, c, f, rfl, hn, hc, hS, hf, hnil, _⟩ := openRw (hval 0 22 v0 rfl rfl) h0
  obtain ⟨B, p', d, f2, rfl, hn2, hc2, hS2, hf2, hnil2, _⟩ := openRw (hval 1 22 v1 rfl rfl) h1
  obtain ⟨l, hl⟩ := stAt_of hn hc hS hf hnil
  obtain ⟨l2, hl2⟩ := stAt_of hn2 hc2 hS2 hf2 hnil2
  exact Diffs_walk A B n p' c d l l2 W hl hl2 hE

theorem SnapshotDiffs_row : Rows.SnapshotDiffsSaid :=
  OpenClaim.holds_of_wide 7 Tryd.f7 rfl rfl rfl rfl rfl rfl rfl ⟨rfl, rfl, rfl, rfl, rfl⟩ rfl rfl rfl rfl rfl (by kernel_rfl) Tryd.func7 (by kernel_rfl)
    (of_decide_eq_true (by kernel_rfl)) (by unfold Func.isWrapper; rw [if_neg (of_decide_eq_false (by kernel_rfl))]; exact ⟨rfl, rfl⟩)
    (fun os started H enc _ => SnapshotDiffs_lifted os started H enc)

theorem SnapshotDiffs_holds : Rows.SnapshotDiffsCardSaid :=
  Claim7.holds_tied_plain_at .later [] [.data, .data, .data] true (true, "d4e8a51a2514cb0c90beadb1d217d9c2e98780b2d5a5878c2c4a8f9f43d2c7fc") false
    SnapshotDiffs_row (fun _ h => by cases h) (by kernel_rfl) (fun _ h => by cases h) snapshotDiffs_row_tie rfl ⟨rfl, rfl⟩ (by kernel_rfl) rfl
    (fun f fn hf hfn => by
      obtain rfl : f = 7 := Option.some.inj ((show Tryd.prog.funcNamed "skyway/skywaykeep4.SnapshotDiffs" = some 7 by kernel_rfl).symm.trans hf) |>.symm
      obtain rfl : fn = Tryd.f7 := (Option.some.inj (Tryd.func7.symm.trans hfn)).symm
      exact ⟨by kernel_rfl, fun j t ht => by
        rw [Tryd.params7] at ht
        have hm : t ∈ [22, 22] := by simpa using Array.mem_of_getElem? ht
        have hall : ([22, 22].all fun u => !Tryd.prog.wantsStandIn u) = true := by kernel_rfl
        exact (show Tryd.prog.wantsStandIn t = false by simpa using List.all_eq_true.1 hall t hm)⟩)
    (by kernel_rfl)
end Go.Proofs.YtojnojjiblcmcaaDoor
