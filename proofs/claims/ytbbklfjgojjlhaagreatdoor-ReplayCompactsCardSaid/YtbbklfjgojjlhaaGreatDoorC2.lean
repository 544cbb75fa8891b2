/- The walk of ReplayCompacts. -/
import Derived.Test.YtbbklfjgojjlhaaGreatDoorK7
import Derived.Test.YtbbklfjgojjlhaaGreatDoorQ1
import Derived.Test.YtbbklfjgojjlhaaGreatDoorM4
namespace Go.Proofs.YtbbklfjgojjlhaaGreatDoor
open Go.RowKit
open Go.Lib hiding intOf

/-- The entries of a log, by their places. -/
def gL (L : List Ent) (i : Nat) : Ent := (L[i]?).getD zeroE
theorem gL_at {L : List Ent} (h : LogOk L) {i : Nat} (hi : i < L.length) : (gL L i).num = (i : Int) + 1 ∧ Ok (gL L i) := by
  have e : L[i]? = some (gL L i) := by unfold gL; rw [List.getElem?_eq_getElem hi]; rfl
  exact h.1 i _ e
theorem ok_wf {e : Ent} (h : Ok e) : Wf e := by
  obtain ⟨h1, h2, h3, h4, h5, h6, _, _⟩ := h
  rw [size_bl] at h5 h6
  exact ⟨by omega, by omega, by unfold maxLen; omega, by unfold maxLen; omega⟩

theorem entsF_congr {f g : Nat → Ent} : ∀ k o, (∀ i, o ≤ i → i < o + k → f i = g i) → entsF f o k = entsF g o k
  | 0, _, _ => rfl
  | k + 1, o, h => by
    rw [entsF, entsF, h o (Nat.le_refl _) (by omega), entsF_congr k (o + 1) (fun i h1 h2 => h i (by omega) (by omega))]
theorem entsF_shift (g : Nat → Ent) (k : Nat) : ∀ r o, entsF (fun i => g (k + i)) o r = entsF g (k + o) r
  | 0, _ => rfl
  | r + 1, o => by rw [entsF, entsF, entsF_shift g k r (o + 1)]; rfl

/-- The law of two parts, for the entries of a sound log. -/
theorem partsL {L : List Ent} (h : LogOk L) (k : Nat) (hk : k ≤ L.length) (h12 : L.length ≤ 12) :
    ((runF [] (entsF (gL L) 0 k)).2.2 ≠ 0 → runF [] (entsF (gL L) 0 L.length) = runF [] (entsF (gL L) 0 k) ∧ (runF [] (entsF (gL L) 0 k)).1 = []) ∧
    ((runF [] (entsF (gL L) 0 k)).2.2 = 0 → (runF [] (entsF (gL L) 0 L.length)).1 = (runF (runF [] (entsF (gL L) 0 k)).1 (entsF (gL L) k (L.length - k))).1 ∧
      (runF [] (entsF (gL L) 0 L.length)).2.2 = (runF (runF [] (entsF (gL L) 0 k)).1 (entsF (gL L) k (L.length - k))).2.2) := by
  let g : Nat → Ent := fun i => if i < L.length then gL L i else { zeroE with num := (i : Int) + 1 }
  have hg : ∀ i, (g i).num = (i : Int) + 1 := fun i => by
    show (if i < L.length then gL L i else { zeroE with num := (i : Int) + 1 }).num = _
    split
    · rename_i hi; exact (gL_at h hi).1
    · rfl
  have hp := parts [] g hg k (L.length - k) (by omega)
  rw [show k + (L.length - k) = L.length by omega] at hp
  have e : ∀ o m, o + m ≤ L.length → entsF g o m = entsF (gL L) o m := fun o m hm => entsF_congr m o fun i _ h2 => by
    show (if i < L.length then gL L i else { zeroE with num := (i : Int) + 1 }) = _
    rw [if_pos (by omega)]
  rw [e 0 k (by omega), e 0 L.length (by omega), e k (L.length - k) (by omega)] at hp
  refine ⟨hp.1, fun h0 => ?_⟩
  rw [hp.2 h0]
  exact ⟨rfl, rfl⟩

theorem StAt.none_ (w : World) : StAt [] none 0 w := ⟨Sl.none_, rfl, fun x hx => absurd hx List.not_mem_nil, by decide, fun _ => rfl⟩

/-- What Compact hands back. -/
def CompP (L : List Ent) (k : Nat) (w : World) (e : Ending) (w' : World) : Prop :=
  Below w.heap.size w w' ∧ (((runF [] (entsF (gL L) 0 k)).2.2 ≠ 0 ∧ e = .returned (.tuple #[.slice none 0 0, .slice none 0 0, .int .i64 (runF [] (entsF (gL L) 0 k)).2.2])) ∨
    ((runF [] (entsF (gL L) 0 k)).2.2 = 0 ∧ ∃ A c A2 c2, e = .returned (.tuple #[.slice A (runF [] (entsF (gL L) 0 k)).1.length c, .slice A2 (L.length - k) c2, .int .i64 0]) ∧
      StAt (runF [] (entsF (gL L) 0 k)).1 A (runF [] (entsF (gL L) 0 k)).1.length w' ∧ Sl w' w'.heap.size 4 A2 (L.length - k) (fun i => rowE (gL L (k + i)))))

set_option maxRecDepth 100000 in
set_option maxHeartbeats 4000000 in
theorem Compact_ok {L : List Ent} (hok : LogOk L) (h12 : L.length ≤ 12) (k : Nat) (hk : k ≤ L.length) (w : World) (he : Env w) :
    Calls Tryz.prog 9 #[.string (mk (encs L)), .int .i64 (k : Int)] w (CompP L k w) := by
  have hlen := encs_len (l := L) (fun i e hi => (hok.1 i e hi).2)
  have hsz : (mk (encs L)).size = (encs L).length := size_mk _
  have HRec := Lib.hid (Recover_any (mk (encs L)) w (by omega) he)
  have HV := Lib.hid he
  have HOk := Lib.hid hok
  have hfin := fun h => runF_fine (l := []) (es := entsF (gL L) 0 k) h
  have HRun := Lib.hid (fun (A2 : Option Addr) (c2 : Nat) (W : World) (hS : Sl W W.heap.size 4 A2 L.length (fun i => rowE (gL L i))) (hv : Env W) => Run_any none 0 0 [] A2 k c2 (gL L) W (StAt.none_ W) (hS.less hk) (by unfold maxLen; omega) (fun i hi => ok_wf (gL_at hok (by omega)).2) hv)
  obtain ⟨R, hR⟩ : ∃ R, runF [] (entsF (gL L) 0 k) = R := ⟨_, rfl⟩
  rw [hR] at HRun hfin
  obtain ⟨LR, iR, cR⟩ := R
  simp only at HRun hfin
  have HR := Lib.hid hR
  have HFin := Lib.hid hfin
  obtain ⟨S, hS⟩ : ∃ S, mk (encs L) = S := ⟨_, rfl⟩
  have HSb := Lib.hid (show bl S = encs L by rw [← hS, bl_mk])
  rw [hS] at HRec hsz ⊢
  have hk0 : (0 : Int) ≤ (k : Int) := by omega
  have hkl : (k : Int) ≤ (L.length : Int) := by omega
  have d1 : decide ((k : Int) < 0) = false := by simp
  have d2 : decide ((L.length : Int) < (k : Int)) = false := by simp; omega
  clear hok he hfin hR hS
  go_enter Tryz.func9, Tryz.ntmps9
  go_wp2_with fail
  refine HRec.out.mono ?_
  rintro e w1 ⟨l, rest, rfl, ⟨A1, c1, hL1⟩, hok1, hsb, hst, hb1⟩
  obtain rfl : l = L := recov_eq hok1 HOk.out hst (by rw [← HSb.out]; exact hsb)
  have hEn := Lib.hid (Entries_all hL1 (by omega))
  have HB1 := Lib.hid hb1
  have d3 : decide (((encs l).length : Int) < (S.size : Int)) = false := by rw [hsz]; simp
  clear hL1 hok1 hsb hst hb1
  by_cases hc0 : cR = 0
  · have HSt := Lib.hid (HFin.out hc0)
    subst hc0
    go_wp2_with (first
      | (go_at_call 7; go_loud (refine hEn.out.mono ?_; rintro e w2 ⟨A2, c2, rfl, hn2, hcm2, hnl2, hs2, hb2⟩; have B2 := bstep HB1.out hb2; have hsl := fun W => slice34 (A := A2) (c := c2) l.length k hk hn2 hnl2 W; obtain ⟨A4, hdr, _, hds⟩ := drop34 (A := A2) (c := c2) l.length k hk hn2 hcm2 hnl2; have HDs := Lib.hid hds; have HS2 := Lib.hid hs2; clear hs2 hnl2 hds))
      | (go_at_call 11; go_loud (refine (HRun.out A2 c2 _ HS2.out (HV.out.below B2)).mono ?_; rintro e w3 ⟨A3, c3, rfl, ho3, hb3⟩; have B3 := bstep B2 hb3; have HO3 := Lib.hid (StAt.of_own HSt.out ho3); have HS4 := Lib.hid (HDs.out _ _ _ ((HS2.out.below hb3).more hb3.size)); clear ho3)))
    go_quiet (fail)
    go_wp2
    go_ret3
    unfold CompP
    rw [HR.out]
    exact ⟨below_drewN B3 _, .inr ⟨rfl, A3, c3, A4, c2 - k, rfl, HO3.out.below (below_drewN (Below.refl _ _) _), HS4.out⟩⟩
  · have hcb : (cR != 0) = true := by simpa using hc0
    have HC0 := Lib.hid hc0
    clear hc0 HFin
    go_wp2_with (first
      | (go_at_call 7; go_loud (refine hEn.out.mono ?_; rintro e w2 ⟨A2, c2, rfl, hn2, hcm2, hnl2, hs2, hb2⟩; have B2 := bstep HB1.out hb2; have hsl := fun W => slice34 (A := A2) (c := c2) l.length k hk hn2 hnl2 W; have HS2 := Lib.hid hs2; clear hs2 hnl2))
      | (go_at_call 11; go_loud (refine (HRun.out A2 c2 _ HS2.out (HV.out.below B2)).mono ?_; rintro e w3 ⟨A3, c3, rfl, ho3, hb3⟩; have B3 := bstep B2 hb3; clear ho3)))
    go_ret3
    unfold CompP
    rw [HR.out]
    exact ⟨B3, .inl ⟨HC0.out, rfl⟩⟩
end Go.Proofs.YtbbklfjgojjlhaaGreatDoor

namespace Go.Proofs.YtbbklfjgojjlhaaGreatDoor
open Go.RowKit
open Go.Lib hiding intOf

set_option maxRecDepth 100000 in
set_option maxHeartbeats 4000000 in
theorem Compacts_walk (A : Option Addr) (n c : Nat) (f : Nat → Ent) (z : Int) (w : World) (hA : Sl w w.heap.size 4 A n (fun i => rowE (f i))) (hf : ∀ i, i < n → Wf (f i)) (hc : n ≤ c) (hcm : c ≤ maxLen) (hnil : A = none → n = 0 ∧ c = 0) (he : Env w) :
    Calls Tryz.prog 3 #[.slice A n c, .int .i64 z] w fun v w' => v = .returned (.bool true) ∧ Below w.heap.size w w' := by
  have HLo := Lib.hid (logOf_any A n c (min n 12) f w hA hf hc hcm hnil rfl)
  have HE := Lib.hid he
  clear hA hf hnil he
  go_enter Tryz.func3, Tryz.ntmps3
  go_wp2_with fail
  refine HLo.out.mono ?_
  rintro e w1 ⟨L, rfl, ⟨A1, c1, hL1⟩, hok, hl12, hb1⟩
  have HL1 := Lib.hid hL1
  have HOk := Lib.hid hok
  have HB1 := Lib.hid hb1
  have hcb := cutI_bd (n := z) (lo := 0) (hi := (L.length : Int)) (by omega)
  obtain ⟨k, hk⟩ : ∃ k : Nat, cutI z 0 (L.length : Int) = (k : Int) := ⟨(cutI z 0 (L.length : Int)).toNat, by omega⟩
  have hkL : k ≤ L.length := by omega
  have HK := Lib.hid hk
  have HP := Lib.hid (partsL hok k hkL hl12)
  have HCo := Lib.hid (fun W hW => Compact_ok hok hl12 k hkL W hW)
  have HRunW := Lib.hid (fun (A2 : Option Addr) (c2 : Nat) (W : World) (hS : Sl W W.heap.size 4 A2 L.length (fun i => rowE (gL L i))) (hv : Env W) => Run_any none 0 0 [] A2 L.length c2 (gL L) W (StAt.none_ W) hS (by unfold maxLen; omega) (fun i hi => ok_wf (gL_at hok (by omega)).2) hv)
  have HRun3 := Lib.hid (fun (l : List Rw) (A5 : Option Addr) (c5 : Nat) (A6 : Option Addr) (c6 : Nat) (W : World) (hW : StAt l A5 l.length W) (hS : Sl W W.heap.size 4 A6 (L.length - k) (fun i => rowE (gL L (k + i)))) (hv : Env W) => Run_any A5 l.length c5 l A6 (L.length - k) c6 (fun i => gL L (k + i)) W hW hS (by unfold maxLen; omega) (fun i hi => ok_wf (gL_at hok (by omega)).2) hv)
  simp only [entsF_shift, Nat.add_zero] at HRun3
  have HEq := Lib.hid (fun (A B : Option Addr) (c d N : Nat) (W : World) (hA : Sl W N 4 A (L.length - k) (fun i => rowE (gL L (k + i)))) (hB : Sl W N 4 B (L.length - k) (fun i => rowE (gL L (k + i)))) => EqualE A B (fun i => gL L (k + i)) (L.length - k) c d N W hA hB (by omega))
  have HLm := Lib.hid (show (runF [] (entsF (gL L) 0 L.length)).1.length ≤ maxLen from by
    by_cases h0 : (runF [] (entsF (gL L) 0 L.length)).2.2 = 0
    · have := (runF_fine h0).len; unfold maxLen; omega
    · rw [runF_err h0]; decide)
  unfold CompP at HCo
  obtain ⟨R, hR⟩ : ∃ R, runF [] (entsF (gL L) 0 k) = R := ⟨_, rfl⟩
  obtain ⟨V, hV⟩ : ∃ V, runF [] (entsF (gL L) 0 L.length) = V := ⟨_, rfl⟩
  rw [hR] at HP HCo
  rw [hV] at HP HRunW HLm
  obtain ⟨LR, iR, cR⟩ := R
  obtain ⟨LV, iV, cV⟩ := V
  simp only at HP HCo HRunW HLm
  clear hk hcb hL1 hok hb1 hR hV
  by_cases hc0 : cR = 0
  · obtain ⟨hp1, hp2⟩ := HP.out.2 hc0
    have HC0 := Lib.hid hc0
    have HRun4 := Lib.hid (HRun3.out LR)
    obtain ⟨D, hD⟩ : ∃ D, runF LR (entsF (gL L) k (L.length - k)) = D := ⟨_, rfl⟩
    rw [hD] at hp1 hp2 HRun4
    obtain ⟨LD, iD, cD⟩ := D
    simp only at hp1 hp2 HRun4
    subst hp1 hp2
    clear hc0 hD HP HRun3
    go_wp2_with (first
      | (go_at_call 5; go_loud (refine (factRec_any _ (HE.out.below HB1.out)).mono ?_; rintro e w2 ⟨rfl, hb2⟩; have B2 := bstep HB1.out hb2))
      | (go_at_call 6; go_loud (refine (fact_any _ (HE.out.below B2)).mono ?_; rintro e w3 ⟨rfl, hb3⟩; have B3 := bstep B2 hb3; have HL3 := Lib.hid ((HL1.out.below hb2).below hb3)))
      | (go_at_call 7; go_loud (refine (Entries_all HL3.out (by omega)).mono ?_; rintro e w4 ⟨A4, c4, rfl, hn4, hcm4, hnl4, hs4, hb4⟩; have B4 := bstep B3 hb4; have HL4 := Lib.hid (HL3.out.below hb4); obtain ⟨A9, hdr, _, hds⟩ := drop34 (A := A4) (c := c4) L.length k hkL hn4 hcm4 hnl4; have HDs := Lib.hid hds; have HS4 := Lib.hid hs4; clear hs4 hnl4 hds))
      | (go_at_call 8; go_loud (refine (Cut_any _ _ _ _ (by omega) (by omega) (by omega)).mono ?_; rintro e w5 ⟨rfl, rfl⟩; rw [HK.out]))
      | (go_at_call 10; go_loud (refine (Bytes_any HL4.out (fun i e hi => (HOk.out.1 i e hi).2) (by omega) (HE.out.below B4)).mono ?_; rintro e w6 ⟨rfl, hb6⟩; have B6 := bstep B4 hb6))
      | (go_at_call 9; go_loud (refine (HCo.out _ (HE.out.below B6)).mono ?_; rintro e w7 ⟨hb7, hcp⟩; obtain ⟨_, A5, c5, A6, c6, rfl, hst5, hs6⟩ := hcp.resolve_left (fun h => h.1 HC0.out); have B7 := bstep B6 hb7; have HSt5 := Lib.hid hst5; have HS6 := Lib.hid hs6; have H47 := Lib.hid (hb6.trans (hb7.mono hb6.size)); clear hcp hst5 hs6))
      | (have _h9 := H78; go_at_call 11; go_loud (refine (HRun4.out A5 c5 A6 c6 _ (HSt5.out.below H78.out) ((HS6.out.below H78.out).more H78.out.size) (HE.out.below B8)).mono ?_; rintro e w9 ⟨A10, c10, rfl, ho10, hb9⟩; have B9 := bstep B8 hb9; have HS10 := Lib.hid (Sl_rows rwV_len ho10 rfl (by decide)); clear ho10))
      | (go_at_call 11; go_loud (refine (HRunW.out A4 c4 _ ((HS4.out.below H47.out).more H47.out.size) (HE.out.below B7)).mono ?_; rintro e w8 ⟨A8, c8, rfl, ho8, hb8⟩; have B8 := bstep B7 hb8; have HS8 := Lib.hid (Sl_rows rwV_len ho8 rfl (by decide)); have H78 := Lib.hid hb8; have H48 := Lib.hid (H47.out.trans (hb8.mono H47.out.size)); clear ho8))
      | (go_at_call 12; go_loud (refine (Same_any A10 A8 _ c10 c8 w9.heap.size _ _ HS10.out ((HS8.out.below hb9).more hb9.size) HLm.out).mono ?_; rintro e w10 ⟨rfl, hb10⟩; have B10 := bstep B9 hb10; have H810 := hb9.trans (hb10.mono hb9.size); have H410 := Lib.hid (H48.out.trans (H810.mono H48.out.size)); have H710 := Lib.hid (H78.out.trans (H810.mono H78.out.size))))
      | (go_at_call 13; go_loud (refine (HEq.out A6 A9 _ _ w10.heap.size _ ((HS6.out.below H710.out).more H710.out.size) (HDs.out _ _ _ ((HS4.out.below H410.out).more H410.out.size))).mono ?_; rintro e w11 ⟨rfl, q11, rfl⟩)))
    go_ret
    exact ⟨rfl, below_drewN B10 _⟩
  · obtain ⟨hp1, hp2⟩ := HP.out.1 hc0
    simp only [Prod.mk.injEq] at hp1
    obtain ⟨rfl, rfl, rfl⟩ := hp1
    have hcb : (cV != 0) = true := by simpa using hc0
    have HC0 := Lib.hid hc0
    clear hc0 HP HRun3 hp2
    go_wp2_with (first
      | (go_at_call 5; go_loud (refine (factRec_any _ (HE.out.below HB1.out)).mono ?_; rintro e w2 ⟨rfl, hb2⟩; have B2 := bstep HB1.out hb2))
      | (go_at_call 6; go_loud (refine (fact_any _ (HE.out.below B2)).mono ?_; rintro e w3 ⟨rfl, hb3⟩; have B3 := bstep B2 hb3; have HL3 := Lib.hid ((HL1.out.below hb2).below hb3)))
      | (go_at_call 7; go_loud (refine (Entries_all HL3.out (by omega)).mono ?_; rintro e w4 ⟨A4, c4, rfl, hn4, hcm4, hnl4, hs4, hb4⟩; have B4 := bstep B3 hb4; have HL4 := Lib.hid (HL3.out.below hb4); have HS4 := Lib.hid hs4; clear hs4 hnl4))
      | (go_at_call 8; go_loud (refine (Cut_any _ _ _ _ (by omega) (by omega) (by omega)).mono ?_; rintro e w5 ⟨rfl, rfl⟩; rw [HK.out]))
      | (go_at_call 10; go_loud (refine (Bytes_any HL4.out (fun i e hi => (HOk.out.1 i e hi).2) (by omega) (HE.out.below B4)).mono ?_; rintro e w6 ⟨rfl, hb6⟩; have B6 := bstep B4 hb6))
      | (go_at_call 9; go_loud (refine (HCo.out _ (HE.out.below B6)).mono ?_; rintro e w7 ⟨hb7, hcp⟩; obtain ⟨_, rfl⟩ := hcp.resolve_right (fun h => HC0.out h.1); have B7 := bstep B6 hb7; have H47 := Lib.hid (hb6.trans (hb7.mono hb6.size)); clear hcp))
      | (go_at_call 11; go_loud (refine (HRunW.out A4 c4 _ ((HS4.out.below H47.out).more H47.out.size) (HE.out.below B7)).mono ?_; rintro e w8 ⟨A8, c8, rfl, ho8, hb8⟩; have B8 := bstep B7 hb8; clear ho8)))
    go_ret
    exact ⟨rfl, B8⟩
end Go.Proofs.YtbbklfjgojjlhaaGreatDoor
