/- The walk of ReplayParts. -/
import Derived.Test.YtbbklfjgojjlhaaDoorK7
import Derived.Test.YtbbklfjgojjlhaaDoorQ1
namespace Go.Proofs.YtbbklfjgojjlhaaDoor
open Go.RowKit
open Go.Lib hiding intOf

theorem numE_wf {f : Nat → Ent} {n i : Nat} (hf : ∀ i, i < n → Wf (f i)) (hi : i < n) (h : i < 12) : Wf (numE f i) := by
  obtain ⟨_, h2, h3, h4⟩ := hf i hi
  exact ⟨⟨by show (-9223372036854775808 : Int) ≤ (i : Int) + 1; omega, by show (i : Int) + 1 ≤ 9223372036854775807; omega⟩, h2, h3, h4⟩

theorem entsF_shift (g : Nat → Ent) (k : Nat) : ∀ r o, entsF (fun i => g (k + i)) o r = entsF g (k + o) r
  | 0, _ => rfl
  | r + 1, o => by rw [entsF, entsF, entsF_shift g k r (o + 1)]; rfl

theorem rowE_one (g : Nat → Ent) {N : Nat} : ∀ i, i < N → (rowE (g i)).length = 4 := fun _ _ => rfl

set_option maxRecDepth 100000 in
set_option maxHeartbeats 4000000 in
theorem Parts_walk (A : Option Addr) (n c : Nat) (l : List Rw) (B : Option Addr) (m d : Nat) (f : Nat → Ent) (z : Int) (w : World) (h : StAt l A n w) (hE : Sl w w.heap.size 4 B m (fun i => rowE (f i))) (hmd : m ≤ d) (hd : d ≤ maxLen) (hnil : B = none → m = 0 ∧ d = 0)
    (hf : ∀ i, i < m → Wf (f i)) (he : Env w) :
    Calls Tryd.prog 3 #[.slice A n c, .slice B m d, .int .i64 z] w fun v w' => v = .returned (.bool true) ∧ Below w.heap.size w w' := by
  obtain ⟨N, hN⟩ : ∃ N, N = min m 12 := ⟨_, rfl⟩
  have HNu := Lib.hid (numbered_any B m d N f w hE hmd hd hnil hN)
  have hN12 : N ≤ 12 := by omega
  have hNm : N ≤ m := by omega
  have HWf := Lib.hid (fun i (hi : i < N) => numE_wf hf (show i < m by omega) (show i < 12 by omega))
  have HH := Lib.hid h
  have HV := Lib.hid he
  clear hE hmd hd hnil hf he hN h
  have hcb := cutI_bd (n := z) (lo := 0) (hi := (N : Int)) (by omega)
  obtain ⟨k, hk⟩ : ∃ k : Nat, cutI z 0 (N : Int) = (k : Int) := ⟨(cutI z 0 (N : Int)).toNat, by omega⟩
  have hkN : k ≤ N := by omega
  have HK := Lib.hid hk
  clear hk hcb
  have HP := Lib.hid (parts l (numE f) (fun _ => rfl) k (N - k) (by omega))
  rw [show k + (N - k) = N by omega] at HP
  have HRun := Lib.hid (fun (A1 : Option Addr) (c1 : Nat) (W : World) (hc1 : N ≤ c1) (hW : StAt l A n W) (hS : Sl W W.heap.size 4 A1 N (fun i => rowE (numE f i))) (hv : Env W) => Run_any A n c l A1 N c1 (numE f) W hW hS (by unfold maxLen; omega) HWf.out hv)
  have HRun2 := Lib.hid (fun (A1 : Option Addr) (c1 : Nat) (W : World) (hW : StAt l A n W) (hS : Sl W W.heap.size 4 A1 N (fun i => rowE (numE f i))) (hv : Env W) => Run_any A n c l A1 k c1 (numE f) W hW (hS.less hkN) (by unfold maxLen; omega) (fun i hi => HWf.out i (by omega)) hv)
  have HFin := Lib.hid (fun h => runF_fine (l := l) (es := entsF (numE f) 0 k) h)
  obtain ⟨R, hR⟩ : ∃ R, runF l (entsF (numE f) 0 N) = R := ⟨_, rfl⟩
  obtain ⟨Bk, hB⟩ : ∃ Bk, runF l (entsF (numE f) 0 k) = Bk := ⟨_, rfl⟩
  rw [hR] at HP HRun
  rw [hB] at HP HRun2 HFin
  clear hR hB
  obtain ⟨LR, iR, cR⟩ := R
  obtain ⟨LB, iB, cB⟩ := Bk
  simp only at HP HRun HRun2 HFin
  by_cases hcB : cB = 0
  · have HFB := Lib.hid (HFin.out hcB)
    clear HFin
    subst hcB
    have HRe := Lib.hid (HP.out.2 rfl)
    have HRun3 := Lib.hid (fun (A5 : Option Addr) (c5 : Nat) (A1 : Option Addr) (c1 : Nat) (W : World) (hW : StAt LB A5 LB.length W) (hS : Sl W W.heap.size 4 A1 (N - k) (fun i => rowE (numE f (k + i)))) (hv : Env W) => Run_any A5 LB.length c5 LB A1 (N - k) c1 (fun i => numE f (k + i)) W hW hS (by unfold maxLen; omega) (fun i hi => HWf.out (k + i) (by omega)) hv)
    simp only [entsF_shift, Nat.add_zero] at HRun3
    obtain ⟨C, hC⟩ : ∃ C, runF LB (entsF (numE f) k (N - k)) = C := ⟨_, rfl⟩
    have hidx := runF_idx LB (entsF (numE f) k (N - k))
    rw [entsF_len] at hidx
    have HLm0 : (runF LB (entsF (numE f) k (N - k))).1.length ≤ maxLen := by
      by_cases h0 : (runF LB (entsF (numE f) k (N - k))).2.2 = 0
      · have := (runF_fine h0).len; unfold maxLen; omega
      · rw [runF_err h0]; decide
    rw [hC] at HRe HRun3 hidx HLm0
    clear hC HP
    obtain ⟨LC, iC, cC⟩ := C
    simp only at HRe HRun3 hidx HLm0
    have HLm := Lib.hid (show LC.length ≤ maxLen from HLm0)
    by_cases hcC : cC = 0
    · subst hcC
      have he1 := HRe.out
      rw [if_neg (by decide)] at he1
      simp only [Prod.mk.injEq] at he1
      obtain ⟨rfl, rfl, rfl⟩ := he1
      clear HRe HLm0 hidx
      go_enter Tryd.func3, Tryd.ntmps3
      go_wp2_with (first
        | (go_at_call 7; go_loud (refine HNu.out.mono ?_; rintro e w1 ⟨A1, c1, rfl, ho1, hb1⟩; have hS1 := Lib.hid (Sl_flat (rowE_one (numE f)) ho1); have hcap1 := (own_cap ho1).1; have hcm1 := (own_cap ho1).2; have hnl1 := own_nil ho1; have hsl := fun W => sliceEn (A := A1) (c := c1) N k hkN hcap1 hnl1 W; obtain ⟨A2, hdr, _, hds⟩ := dropEn (A := A1) (c := c1) N k hkN hcap1 hcm1 hnl1; have HDs := Lib.hid hds; clear ho1 hds hnl1))
        | (go_at_call 8; go_loud (refine (Cut_any _ _ _ _ (by omega) (by omega) (by omega)).mono ?_; rintro e w2 ⟨rfl, rfl⟩; rw [HK.out]))
        | (have _h9 := B4; go_at_call 9; go_loud (refine (HRun3.out A4 c4 A2 (c1 - k) _ (HS4.out) (HDs.out _ _ _ ((hS1.out.below (hb3.trans (hb4.mono hb3.size))).more (hb3.trans (hb4.mono hb3.size)).size)) (HV.out.below B4)).mono ?_; rintro e w5 ⟨A6, c6, rfl, ho6, hb5⟩; have B5 := bstep B4 hb5; have HS6 := Lib.hid (Sl_rows rwV_len ho6 rfl (by decide)); clear ho6))
        | (have _h9 := hb3; go_at_call 9; go_loud (refine (HRun2.out A1 c1 _ (HH.out.below B3) ((hS1.out.below hb3).more hb3.size) (HV.out.below B3)).mono ?_; rintro e w4 ⟨A4, c4, rfl, ho4, hb4⟩; have B4 := bstep B3 hb4; have HS4 := Lib.hid (StAt.of_own HFB.out ho4); clear ho4))
        | (go_at_call 9; go_loud (refine (HRun.out A1 c1 _ hcap1 (HH.out.below hb1) hS1.out (HV.out.below hb1)).mono ?_; rintro e w3 ⟨A3, c3, rfl, ho3, hb3⟩; have B3 := bstep hb1 hb3; have HS3 := Lib.hid (Sl_rows rwV_len ho3 rfl (by decide)); clear ho3))
        | (go_at_call 10; go_loud (refine (fact_any _ (HV.out.below B5)).mono ?_; rintro e w6 ⟨rfl, hb6⟩; have B6 := bstep B5 hb6))
        | (go_at_call 11; go_loud (refine (Same_any A3 A6 LR.length c3 c6 w6.heap.size LR _ ((HS3.out.below (hb4.trans ((hb5.trans (hb6.mono hb5.size)).mono hb4.size))).more (hb4.trans ((hb5.trans (hb6.mono hb5.size)).mono hb4.size)).size) ((HS6.out.below hb6).more hb6.size) HLm.out).mono ?_; rintro e w7 ⟨rfl, hb7⟩)))
      go_ret
      exact ⟨rfl, bstep B6 hb7⟩
    · have he1 := HRe.out
      rw [if_pos hcC] at he1
      simp only [Prod.mk.injEq] at he1
      obtain ⟨rfl, rfl, rfl⟩ := he1
      have hcb2 : (cR != 0) = true := by simpa using hcC
      have hadd : IntKind.i64.wrap ((iC : Int) + (k : Int)) = ((iC + k : Nat) : Int) := by rw [IntWalk.i64_in _ (by omega)]; simp
      obtain ⟨q, hq⟩ : ∃ q : Nat, iC + k = q := ⟨_, rfl⟩
      rw [hq] at hadd HRun
      clear HRe HLm0 hidx hcC hq
      go_enter Tryd.func3, Tryd.ntmps3
      go_wp2_with (first
        | (go_at_call 7; go_loud (refine HNu.out.mono ?_; rintro e w1 ⟨A1, c1, rfl, ho1, hb1⟩; have hS1 := Lib.hid (Sl_flat (rowE_one (numE f)) ho1); have hcap1 := (own_cap ho1).1; have hcm1 := (own_cap ho1).2; have hnl1 := own_nil ho1; have hsl := fun W => sliceEn (A := A1) (c := c1) N k hkN hcap1 hnl1 W; obtain ⟨A2, hdr, _, hds⟩ := dropEn (A := A1) (c := c1) N k hkN hcap1 hcm1 hnl1; have HDs := Lib.hid hds; clear ho1 hds hnl1))
        | (go_at_call 8; go_loud (refine (Cut_any _ _ _ _ (by omega) (by omega) (by omega)).mono ?_; rintro e w2 ⟨rfl, rfl⟩; rw [HK.out]))
        | (have _h9 := B4; go_at_call 9; go_loud (refine (HRun3.out A4 c4 A2 (c1 - k) _ (HS4.out) (HDs.out _ _ _ ((hS1.out.below (hb3.trans (hb4.mono hb3.size))).more (hb3.trans (hb4.mono hb3.size)).size)) (HV.out.below B4)).mono ?_; rintro e w5 ⟨A6, c6, rfl, ho6, hb5⟩; have B5 := bstep B4 hb5; have HS6 := Lib.hid (Sl_rows rwV_len ho6 rfl (by decide)); clear ho6))
        | (have _h9 := hb3; go_at_call 9; go_loud (refine (HRun2.out A1 c1 _ (HH.out.below B3) ((hS1.out.below hb3).more hb3.size) (HV.out.below B3)).mono ?_; rintro e w4 ⟨A4, c4, rfl, ho4, hb4⟩; have B4 := bstep B3 hb4; have HS4 := Lib.hid (StAt.of_own HFB.out ho4); clear ho4))
        | (go_at_call 9; go_loud (refine (HRun.out A1 c1 _ hcap1 (HH.out.below hb1) hS1.out (HV.out.below hb1)).mono ?_; rintro e w3 ⟨A3, c3, rfl, ho3, hb3⟩; have B3 := bstep hb1 hb3; have HS3 := Lib.hid (Sl_rows rwV_len ho3 rfl (by decide)); clear ho3))
        | (go_at_call 10; go_loud (refine (fact_any _ (HV.out.below B5)).mono ?_; rintro e w6 ⟨rfl, hb6⟩; have B6 := bstep B5 hb6))
        | (go_at_call 11; go_loud (refine (Same_any A3 A6 LR.length c3 c6 w6.heap.size LR _ ((HS3.out.below (hb4.trans ((hb5.trans (hb6.mono hb5.size)).mono hb4.size))).more (hb4.trans ((hb5.trans (hb6.mono hb5.size)).mono hb4.size)).size) ((HS6.out.below hb6).more hb6.size) HLm.out).mono ?_; rintro e w7 ⟨rfl, hb7⟩)))
      go_ret
      exact ⟨rfl, bstep B6 hb7⟩
  · obtain ⟨he1, rfl⟩ := HP.out.1 hcB
    simp only [Prod.mk.injEq] at he1
    obtain ⟨rfl, rfl, rfl⟩ := he1
    have hcb2 : (cR != 0) = true := by simpa using hcB
    clear HP hcB HFin
    go_enter Tryd.func3, Tryd.ntmps3
    go_wp2_with (first
      | (go_at_call 7; go_loud (refine HNu.out.mono ?_; rintro e w1 ⟨A1, c1, rfl, ho1, hb1⟩; have hS1 := Lib.hid (Sl_flat (rowE_one (numE f)) ho1); have hcap1 := (own_cap ho1).1; have hsl := fun W => sliceEn (A := A1) (c := c1) N k hkN hcap1 (own_nil ho1) W; clear ho1))
      | (go_at_call 8; go_loud (refine (Cut_any _ _ _ _ (by omega) (by omega) (by omega)).mono ?_; rintro e w2 ⟨rfl, rfl⟩; rw [HK.out]))
      | (have _h9 := hb3; go_at_call 9; go_loud (refine (HRun2.out A1 c1 _ (HH.out.below (bstep hb1 hb3)) ((hS1.out.below hb3).more hb3.size) (HV.out.below (bstep hb1 hb3))).mono ?_; rintro e w4 ⟨A4, c4, rfl, _, hb4⟩))
      | (go_at_call 9; go_loud (refine (HRun.out A1 c1 _ hcap1 (HH.out.below hb1) hS1.out (HV.out.below hb1)).mono ?_; rintro e w3 ⟨A3, c3, rfl, _, hb3⟩))
      | (go_at_call 10; go_loud (refine (fact_any _ (HV.out.below (bstep (bstep hb1 hb3) hb4))).mono ?_; rintro e w5 ⟨rfl, hb5⟩)))
    go_ret
    exact ⟨rfl, bstep (bstep (bstep hb1 hb3) hb4) hb5⟩
end Go.Proofs.YtbbklfjgojjlhaaDoor
