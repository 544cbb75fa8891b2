/- TopTorn returns true for every input. -/
import Derived.Test.YtaebebpldkciiaaGreatDoorQLf
import Derived.Test.YtaebebpldkciiaaGreatDoorQOpen
import Derived.Test.YtaebebpldkciiaaGreatDoorQS15
import Derived.Test.YtaebebpldkciiaaGreatDoorQRT
namespace Go.Proofs.YtaebebpldkciiaaGreatDoor
open Go.ChangeShapes Go.WideShapes Go.ChangeAt Go.RowKit Go.ChangeMaps
set_option maxRecDepth 100000 in
theorem TopTorn_lifted (os : Os) (started : os.Started) (H : Type) (enc : TypeId × Value → H) :
  ReturnsInHanded {} Tryz.checked os 9 .any (fun w args => (Rows.topTornSpec.pre enc Tryz.prog Tryz.f9 [] false w args ∧ laidMetH Tryz.prog laid11 w) ∧ sizedMet enc Tryz.prog Tryz.f9 (OpenSpec.ofChange Rows.topTornSpec) false w args) (Rows.topTornSpec.post enc Tryz.prog Tryz.f9 false true false false) := by
 refine Law.lifted laid11 started (by kernel_rfl) Tryz.func9 (by kernel_rfl) (tb := 4) rfl Tryz.underlying4 rfl (fun H ds hl => ?_)
  (ChangeSpec.witness_shaped (enc := enc) (C := Tryz.checked) (os := os) (X := fun w _ => laidMetH Tryz.prog laid11 w) false (World.laidAll Tryz.prog os laid11) #[.agg #[.int .i64 0, .int .i64 0, .int .i64 0, .int .i64 0, .int .i64 0, .int .i64 0, .int .i64 0, .int .i64 0, .int .i64 0, .int .i64 0, .int .i64 0, .int .i64 0, .int .i64 0, .int .i64 0, .int .i64 0, .int .i64 0, .int .i64 0, .int .i64 0], .slice none 0 0, .int .i64 0] 8 (World.laidAll_os _ _ _) (World.shaped_of_ZipB (by kernel_rfl) (by kernel_rfl)) (by kernel_rfl) (by kernel_rfl) (by kernel_rfl) (door_met11 os _)) ?_
 ·match ds, hl with
  | [d0, d1, d2], _ => rfl
 intro W base args ds p hval hA hwt hlt hlaid hsh
 rw [Tryz.params9] at hA hval
 have hE := env_of hlaid hsh
 have hW : SeaW W := ⟨(ks_at hlaid.tail.tail.tail.tail.tail.tail.tail.tail.tail).1, (ks_at hlaid.tail.tail.tail.tail.tail.tail.tail.tail.tail).2, tab_at hlaid.tail.tail.tail.tail hlaid.tail.tail.tail.tail.tail hlaid.tail.tail.tail.tail.tail.tail⟩
 obtain ⟨v0, v1, v2, d0, d1, d2, p0, p1, p2, rfl, rfl, rfl, h0, h1, h2⟩ := trodAll_three hA
 obtain ⟨S, rfl⟩ := open_setup (hval 0 27 v0 rfl rfl) h0
 obtain ⟨A, n, cA, l, hs, rfl, hI, hn, hc, hnil⟩ := open_inps (hval 1 28 v1 rfl rfl) h1
 obtain ⟨z, rfl, rfl, rfl, _⟩ := open_int Tryz.underlying3 (hval 2 3 v2 rfl rfl) h2
 exact TopTorn_any S l hs n A cA z W hW.ks hW.pos hI ⟨hn, hc⟩ hnil (fun W2 hb => fact10_any W2 (hW.below hb)) hE
theorem TopTorn_row : Rows.TopTornSaid :=
 OpenClaim.holds_of_wide 9 Tryz.f9 rfl rfl rfl rfl rfl rfl rfl ⟨rfl, rfl, rfl, rfl, rfl⟩ rfl rfl rfl rfl rfl (by kernel_rfl) Tryz.func9 (by kernel_rfl)
  (of_decide_eq_true (by kernel_rfl)) (by unfold Func.isWrapper; rw [if_neg (of_decide_eq_false (by kernel_rfl))]; exact ⟨rfl, rfl⟩)
  (fun os started H enc _ => TopTorn_lifted os started H enc)
theorem TopTorn_holds : Rows.TopTornCardSaid :=
 Claim7.holds_tied_plain_at .later [] [.data, .data, .data, .data, .data, .data, .data, .sentinel, .sentinel, .data, .pinned] true (true, "b60ba911c76117f3f22dfa764f057c9700a57528149170f104fa12fd18804aa1") true
  TopTorn_row (fun _ h => by cases h) (by kernel_rfl) (fun _ h => by cases h) topTorn_row_tie rfl ⟨rfl, rfl⟩ (by kernel_rfl) rfl
  (fun f fn hf hfn => by
   obtain rfl : f = 9 := Option.some.inj ((show Tryz.prog.funcNamed "skyway/skywaytop.TopTorn" = some 9 by kernel_rfl).symm.trans hf) |>.symm
   obtain rfl : fn = Tryz.f9 := (Option.some.inj (Tryz.func9.symm.trans hfn)).symm
   exact ⟨by kernel_rfl, fun j t ht => by
    rw [Tryz.params9] at ht
    have hm : t ∈ [27, 28, 3] := by simpa using Array.mem_of_getElem? ht
    have hall : ([27, 28, 3].all fun u => !Tryz.prog.wantsStandIn u) = true := by kernel_rfl
    exact (show Tryz.prog.wantsStandIn t = false by simpa using List.all_eq_true.1 hall t hm)⟩)
  (by kernel_rfl)
end Go.Proofs.YtaebebpldkciiaaGreatDoor
