/- The walk of TopReplay. -/
import Derived.Test.YtjmdebeffpdpcaaGreatDoorT3
import Derived.Test.YtjmdebeffpdpcaaGreatDoorTR3
namespace Go.Proofs.YtjmdebeffpdpcaaGreatDoor
open Go.RowKit
open Go.Lib hiding intOf

theorem textB_size {l : List Rw} (h : Fine l) : (textB l).size ≤ 8192 := by
  unfold textB
  rw [ByteArray.size_append, ByteArray.size_append]
  have h1 := linesB_size (fine_small h)
  have h2 := hex_size (digN l) (digN_lt l)
  have h3 := h.len
  have h4 : bNl.size = 1 := rfl
  omega

set_option maxRecDepth 100000 in
set_option maxHeartbeats 4000000 in
theorem TopReplay_walk (A : Option Addr) (n c : Nat) (f : Nat → Ent) (z z2 : Int) (w : World) (hA : Sl w w.heap.size 4 A n (fun i => rowE (f i))) (hf : ∀ i, i < n → Wf (f i)) (hc : n ≤ c) (hcm : c ≤ maxLen) (hnil : A = none → n = 0 ∧ c = 0) (he : Env w) (hs : EnvS w) :
    Calls Tryz.prog 3 #[.slice A n c, .int .i64 z, .int .i64 z2] w fun y w' => y = .returned (.bool true) ∧ Below w.heap.size w w' := by
  have HLo := Lib.hid (dLog_any A n c (min n 14) f w hA hf hc hcm hnil rfl he)
  have HE := Lib.hid he
  have HV := Lib.hid hs
  clear hA hf hnil he hs
  go_enter Tryz.func3, Tryz.ntmps3
  go_wp2_with fail
  refine HLo.out.mono ?_
  rintro e w1 ⟨L, S0, rfl, ⟨A1, c1, hL1⟩, hok, hru, hl14, hb1⟩
  have HL1 := Lib.hid hL1
  have HOk := Lib.hid hok
  have HRu := Lib.hid hru
  go_wp2_with fail
  refine (dRec_any _ (HE.out.below hb1)).mono ?_
  rintro e w2 ⟨rfl, hb2⟩
  have B2 := bstep hb1 hb2
  have HL2 := Lib.hid (HL1.out.below hb2)
  have HBy := Lib.hid (Bytes_any HL2.out (fun i e h => (HOk.out.1 i e h).2) (by omega) (HE.out.below B2))
  have hlS := encs_len (l := L) (fun i e h => (HOk.out.1 i e h).2)
  obtain ⟨S, hS⟩ : ∃ S, mk (encs L) = S := ⟨_, rfl⟩
  have hSb : bl S = encs L := by rw [← hS, bl_mk]
  have hSz : S.size = (encs L).length := by rw [← hS, size_mk]
  rw [hS] at HBy
  have HSb := Lib.hid hSb
  have HSz := Lib.hid hSz
  have hS2 : S.size ≤ 2240 := by omega
  clear hb2 hL1 hok hru hb1 hS hSb hSz hlS
  go_wp2_with fail
  refine HBy.out.mono ?_
  rintro e w3 ⟨rfl, hb3⟩
  have B3 := bstep B2 hb3
  have hcb := cutI_bd (n := z) (lo := 0) (hi := (S.size : Int)) (by omega)
  obtain ⟨p, hp⟩ : ∃ p : Nat, cutI z 0 (S.size : Int) = (p : Int) := ⟨(cutI z 0 (S.size : Int)).toNat, by omega⟩
  have hps : p ≤ S.size := by omega
  have HP := Lib.hid hp
  clear hb3 hcb hp
  go_wp2_with fail
  refine (Cut_any _ _ _ _ (by omega) (by omega) (by omega)).mono ?_
  rintro e w3' ⟨rfl, rfl⟩
  rw [HP.out]
  have hsl := fun W => slice_str S p hps (by unfold maxLen; omega) W
  rw [HSb.out] at hsl
  have HRe := Lib.hid (Recover_any (mk ((encs L).take p)) w3 (by rw [size_mk, List.length_take]; omega) (HE.out.below B3))
  go_wp2_with fail
  refine HRe.out.mono ?_
  rintro e w4 ⟨l, rest, rfl, ⟨A2, c2, hL4⟩, hok4, hsr, hst, hb4⟩
  rw [bl_mk] at hsr
  have B4 := bstep B3 hb4
  have HL4 := Lib.hid hL4
  obtain ⟨t, hLt⟩ := cut_prefix HOk.out hok4 hsr
  have hln : L.length = l.length + t.length := by rw [hLt, List.length_append]
  have hl14' : l.length ≤ 14 := by omega
  have hel : encs L = encs l ++ encs t := by rw [hLt, encs_append]
  have heln : (encs l).length ≤ S.size := by rw [HSz.out, hel, List.length_append]; omega
  have hsl2 := fun W => slice_str S (encs l).length heln (by unfold maxLen; omega) W
  rw [HSb.out, hel, List.take_left' rfl] at hsl2
  obtain ⟨U, hU⟩ : ∃ U, (encs l).length = U := ⟨_, rfl⟩
  rw [hU] at heln hsl2
  have HU := Lib.hid hU
  have d3 : decide ((S.size : Int) < (U : Int)) = false := by simp; omega
  have hU0 : (0 : Int) ≤ (U : Int) := by omega
  have hUS : (U : Int) ≤ (S.size : Int) := by omega
  have hRp := fun k hk => replays HRu.out hok4 hLt hl14' k hk
  have HRp := Lib.hid hRp
  have HK4 := Lib.hid hok4
  have HEn := Lib.hid (Entries_all HL4.out (by omega))
  clear hsl hb4 hL4 hok4 hsr hst hLt hln hel hRp
  rw [hU]
  clear hU
  go_wp2_with fail
  refine HEn.out.mono ?_
  rintro e w5 ⟨A3, c3, rfl, _, _, _, hs5, hb5⟩
  have B5 := bstep B4 hb5
  have HS5 := Lib.hid hs5
  have hcb := cutI_bd (n := z2) (lo := 0) (hi := (l.length : Int)) (by omega)
  obtain ⟨k, hk⟩ : ∃ k : Nat, cutI z2 0 (l.length : Int) = (k : Int) := ⟨(cutI z2 0 (l.length : Int)).toNat, by omega⟩
  have hkL : k ≤ l.length := by omega
  have HK := Lib.hid hk
  have HCo := Lib.hid (fun W hW => Compact_ok HK4.out hl14' k hkL W hW)
  obtain ⟨g1, g2, g3, g4⟩ := HRp.out k hkL
  have HRunW := Lib.hid (fun (A2 : Option Addr) (c2 : Nat) (W : World) (hS : Sl W W.heap.size 4 A2 l.length (fun i => rowE (gL l i))) (hv : Env W) => Run_any none 0 0 [] A2 l.length c2 (gL l) W (StAt.none_ W) hS (by unfold maxLen; omega) (fun i hi => ok_wf (gL_at HK4.out (by omega)).2) hv)
  have HRun3 := Lib.hid (fun (l' : List Rw) (A5 : Option Addr) (c5 : Nat) (A6 : Option Addr) (c6 : Nat) (W : World) (hW : StAt l' A5 l'.length W) (hS : Sl W W.heap.size 4 A6 (l.length - k) (fun i => rowE (gL l (k + i)))) (hv : Env W) => Run_any A5 l'.length c5 l' A6 (l.length - k) c6 (fun i => gL l (k + i)) W hW hS (by unfold maxLen; omega) (fun i hi => ok_wf (gL_at HK4.out (by omega)).2) hv)
  simp only [entsF_shift, Nat.add_zero] at HRun3
  have hf1 := runF_fine g1
  have hf2 := runF_fine g2
  unfold CompP at HCo
  obtain ⟨R, hR⟩ : ∃ R, runF [] (entsF (gL l) 0 k) = R := ⟨_, rfl⟩
  obtain ⟨V, hV⟩ : ∃ V, runF [] (entsF (gL l) 0 l.length) = V := ⟨_, rfl⟩
  rw [hR] at HCo g1 g3 g4 hf1
  rw [hV] at HRunW g2 g3 hf2
  obtain ⟨LR, iR, cR⟩ := R
  obtain ⟨LV, iV, cV⟩ := V
  simp only at HCo HRunW g1 g2 g3 g4 hf1 hf2
  subst g1 g2
  have HRun4 := Lib.hid (HRun3.out LR)
  obtain ⟨D, hD⟩ : ∃ D, runF LR (entsF (gL l) k (l.length - k)) = D := ⟨_, rfl⟩
  rw [hD] at g3 g4 HRun4
  obtain ⟨LD, iD, cD⟩ := D
  simp only at g3 g4 HRun4
  subst g3 g4
  have HF1 := Lib.hid hf1
  have HF2 := Lib.hid hf2
  have HRd := Lib.hid (fun W hW => Read_any (textB LR) W (by have := textB_size hf1; omega) hW)
  rw [read_text hf1 (textB_size hf1)] at HRd
  have HTx := Lib.hid (fun (A5 : Option Addr) (c5 : Nat) (W : World) (hW : StAt LR A5 LR.length W) (hV : EnvS W) => Text_any A5 LR.length c5 LR W hW.sl rfl hW.z hW.le hV.tab hV.big)
  unfold TextP at HTx
  rw [show textL LR = textB LR from by unfold textL; rw [if_pos (fine_check hf1)], fine_check hf1] at HTx
  have HDg := Lib.hid (fun (A5 : Option Addr) (c5 : Nat) (W : World) (hW : StAt LV A5 LV.length W) => Digest_any A5 LV.length c5 LV W hW.sl rfl hW.z hW.le)
  unfold DigestP at HDg
  rw [fine_check hf2] at HDg
  obtain ⟨TX, hTX⟩ : ∃ T, textB LR = T := ⟨_, rfl⟩
  obtain ⟨DG, hDG⟩ : ∃ T, digN LV = T := ⟨_, rfl⟩
  rw [hTX] at HTx HRd
  rw [hDG] at HDg
  clear hk hcb hb5 hs5 hR hV hD HRun3 hf1 hf2 hTX hDG HRp
  go_wp2_with fail
  go_region_with (first
    | (go_at_call 8; go_loud (refine (Cut_any _ _ _ _ (by omega) (by omega) (by omega)).mono ?_; rintro e w6 ⟨rfl, rfl⟩; rw [HK.out]))
    | (go_at_call 10; go_loud (refine (HCo.out _ (HE.out.below (below_drewN B5 _))).mono ?_; rintro e w7 ⟨hb7, hcp⟩; obtain ⟨_, A5, c5, A6, c6, rfl, hst5, hs6⟩ := hcp.resolve_left (fun h => h.1 rfl); have HSt5 := Lib.hid hst5; have HS6 := Lib.hid hs6; have H57 := Lib.hid hb7; clear hcp hst5 hs6 hb7)))
  have B7 := bstep (below_drewN B5 _) H57.out
  have HA7 := Lib.hid (((HS5.out.drewN _).below H57.out).more H57.out.size)
  go_wp2_with fail
  refine (HTx.out A5 c5 _ HSt5.out (HV.out.below B7)).mono ?_
  rintro e w8 ⟨rfl, hb8⟩
  have B8 := bstep B7 hb8
  have HS8 := Lib.hid ((HS6.out.below hb8).more hb8.size)
  have HA8 := Lib.hid ((HA7.out.below hb8).more hb8.size)
  clear hb8
  go_wp2_with fail
  refine (HRd.out _ (HV.out.below B8)).mono ?_
  rintro e w9 ⟨A9, c9, rfl, ho9, hb9⟩
  have B9 := bstep B8 hb9
  have HSt9 := Lib.hid (StAt.of_own HF1.out ho9)
  have HS9 := Lib.hid ((HS8.out.below hb9).more hb9.size)
  have HA9 := Lib.hid ((HA8.out.below hb9).more hb9.size)
  clear ho9 hb9
  go_wp2_with fail
  refine (HRun4.out A9 c9 A6 c6 _ HSt9.out HS9.out (HE.out.below B9)).mono ?_
  rintro e w10 ⟨A10, c10, rfl, ho10, hb10⟩
  have B10 := bstep B9 hb10
  have HSt10 := Lib.hid (StAt.of_own HF2.out ho10)
  have HA10 := Lib.hid ((HA9.out.below hb10).more hb10.size)
  clear ho10 hb10
  go_wp2_with fail
  refine (HRunW.out A3 c3 _ HA10.out (HE.out.below B10)).mono ?_
  rintro e w11 ⟨A11, c11, rfl, ho11, hb11⟩
  have B11 := bstep B10 hb11
  have HSt11 := Lib.hid (StAt.of_own HF2.out ho11)
  have HSa11 := Lib.hid (HSt10.out.below hb11)
  clear ho11 hb11
  go_wp2_with fail
  refine (HDg.out A10 c10 _ HSa11.out).mono ?_
  rintro e w12 ⟨rfl, hb12⟩
  have B12 := bstep B11 hb12
  have HSa12 := Lib.hid (HSa11.out.below hb12)
  have HSb12 := Lib.hid (HSt11.out.below hb12)
  clear hb12
  go_wp2_with fail
  refine (HDg.out A11 c11 _ HSb12.out).mono ?_
  rintro e w13 ⟨rfl, hb13⟩
  have B13 := bstep B12 hb13
  have HSa13 := Lib.hid (HSa12.out.below hb13)
  have HSb13 := Lib.hid (HSb12.out.below hb13)
  clear hb13
  have HSm := Lib.hid (Same_any A10 A11 LV.length c10 c11 w13.heap.size LV w13 HSa13.out.sl HSb13.out.sl HSa13.out.le)
  go_wp2_with (go_at_call 15; go_loud (refine HSm.out.mono ?_; rintro e w14 ⟨rfl, hb14⟩))
  go_ret
  exact ⟨rfl, bstep B13 hb14⟩
end Go.Proofs.YtjmdebeffpdpcaaGreatDoor
