/- TopPromise: the walk. -/
import Derived.Test.YtaebebpldkciiaaGreatDoorB3
import Derived.Test.YtaebebpldkciiaaGreatDoorZS24
import Derived.Test.YtaebebpldkciiaaGreatDoorZP3
namespace Go.Proofs.YtaebebpldkciiaaGreatDoor
open Go.RowKit
theorem it_info : (Tryz.prog.info? 68).map (fun i => (i.zero, i.size, i.bytes)) = some (some (.agg #[.string ByteArray.empty, .int .i64 0, .int .i64 0, .int .i64 0]), 4, 40) := by kernel_rfl
def gapA (S : Su) : Array Value := #[.int .i64 (S.g 0), .int .i64 (S.g 1), .int .i64 (S.g 2), .int .i64 (S.g 3), .int .i64 (S.g 4), .int .i64 (S.g 5), .int .i64 (S.g 6), .int .i64 (S.g 7), .int .i64 (S.g 8), .int .i64 (S.g 9), .int .i64 (S.g 10), .int .i64 (S.g 11), .int .i64 (S.g 12), .int .i64 (S.g 13), .int .i64 (S.g 14), .int .i64 (S.g 15)]
theorem gapA_ok (S : Su) : Gaps (gapA S) S.g := ⟨rfl, fun i hi => by
 match i, hi with
 | 0, _ => rfl
 | 1, _ => rfl
 | 2, _ => rfl
 | 3, _ => rfl
 | 4, _ => rfl
 | 5, _ => rfl
 | 6, _ => rfl
 | 7, _ => rfl
 | 8, _ => rfl
 | 9, _ => rfl
 | 10, _ => rfl
 | 11, _ => rfl
 | 12, _ => rfl
 | 13, _ => rfl
 | 14, _ => rfl
 | 15, _ => rfl
 | i + 16, hi => exact absurd hi (by omega)⟩
set_option maxRecDepth 100000 in
set_option maxHeartbeats 32000000 in
theorem TopPromise_any (S : Su) (l : List Inp) (hs : List Hd) (n : Nat) (A : Option Addr) (cA : Nat) (w : World) (hks : KsAt kindsS w) (h0 : 0 < w.heap.size) (hI : InsA w.heap.size A n l hs w) (hcap : n ≤ cA ∧ cA ≤ maxLen) (hnil : A = none → n = 0 ∧ cA = 0)
  (hfact : ∀ W, Below w.heap.size w W → Calls Tryz.prog 10 #[] W fun e w' => e = .returned (.bool true) ∧ Below W.heap.size W w')
  (hsort : ∀ (A : Option Addr) (c n base : Nat) (l : List Va) (w : World), w.ownsRow base 68 4 (.slice A n c) n (rowsV vaV l) → l.length = n → n ≤ 1000 → base ≤ w.heap.size →
   Calls Tryz.prog 23 #[.slice A n c, .func (.func 24) #[] #[]] w fun e w' => e = .returned (.tuple #[]) ∧ (∃ s : List Va, s.Perm l ∧ (∀ i j, i < j → j < s.length → (vi s i).rd ≤ (vi s j).rd) ∧ Sl w' w'.heap.size 4 A n (fun i => (vi s i).row)) ∧ Below base w w') :
  Calls Tryz.prog 8 #[suA S, .slice A n cA] w fun e w' => e = .returned (.bool true) ∧ Below w.heap.size w w' := by
 obtain ⟨V, hV⟩ : ∃ V, w.alloc (suO S) = V := ⟨_, rfl⟩
 have hbV : Below w.heap.size w V := by rw [← hV]; exact (Below.refl _ _).alloc (Nat.le_refl _) _
 have hg0 : SuAt S w.heap.size V := by rw [← hV]; exact heap_alloc_new _ _
 have hzV : V.heap.size = w.heap.size + 1 := by rw [← hV, size_al]
 have HBV := Lib.hid hbV
 have HCt := Lib.hid (dCentre_any S l hs V.heap.size n A cA V (hks.below hbV h0) (by omega) (Nat.le_refl _) (have h1 := hI.below hbV; ⟨h1.ln, h1.hn, h1.row.more hbV.size, fun i hi => ⟨(h1.tube i hi).1, (h1.tube i hi).2.more hbV.size⟩, h1.bd⟩) hcap hnil)
 have HFact := Lib.hid hfact
 have HSo := Lib.hid hsort
 have HCk := Lib.hid (fun (W : World) => CCheck_any S.lat S.vert S.g W)
 unfold SuAt suL at hg0
 have HG0 := Lib.hid hg0
 have HSu := Lib.hid (fun (W : World) (hb : Below V.heap.size V W) => (hb.block w.heap.size (by omega)).trans hg0)
 unfold suO at hV
 unfold suA setupA at HCt ⊢
 unfold setupA at HCk
 clear hks h0 hI hcap hnil hfact hsort hg0 hzV hbV
 by_cases hE : suE S = 0
 ·have HS : Hid (SuOk S) := Lib.hid (suE_ok hE)
  have HCt' := Lib.hid (HCt.out.mono (by
   rintro e w' ⟨⟨h1, _⟩ | ⟨_, g, c, F, h2, h3, h4, h5, h6, h8, _⟩, h7⟩
   ·exact absurd hE h1
   ·exact ⟨g, c, F, h2, h3, h4, h6, h8, h7⟩ : ∀ e w', _ → ∃ g c F, e = .returned (.pointer (some ⟨g, 0, none⟩)) ∧ CeAt F g S c w' ∧ CeOk c ∧ c.acc ≤ 14 ∧ Pw LandOne (LandTwo S) c.fl ∧ Below V.heap.size V w'))
  clear HCt HCk
  go_enter Tryz.func8, Tryz.ntmps8
  go_upto_region 6 with (first
   | (first | (refine wpList_load_row rfl 27 _ rfl w.heap.size rfl 27 _ (0, 0) _ HG0.out Tryz.underlying27 rfl (by kernel_rfl) ?_) | (refine wpList_load_row_w 27 _ rfl w.heap.size rfl rfl 27 _ (0, 0) _ HG0.out Tryz.underlying27 rfl (by kernel_rfl) ?_))
   | (go_at_call 12; go_loud (refine HCt'.out.mono ?_; rintro e w1 ⟨g, c, F, rfl, hc1, hok1, hacc, hpw, hb1⟩; have HC1 := Lib.hid hc1; have HOk := Lib.hid hok1; have HPw := Lib.hid hpw; have HAcc := Lib.hid hacc; have HB1 := Lib.hid (HBV.out.trans (hb1.mono HBV.out.size)); have HV1 := Lib.hid hb1; clear hc1 hok1 hb1 hpw hacc))
   | (go_at_call 10; go_loud (refine (HFact.out _ HB1.out).mono ?_; rintro e w2 ⟨rfl, hb2⟩; have HB2 := Lib.hid (HB1.out.trans (hb2.mono HB1.out.size)); have HV2 := Lib.hid (HV1.out.trans (hb2.mono HV1.out.size)); have HFl := Lib.hid (HC1.out.elim fun y hy => Flights_any (hy.below hb2) HOk.out); clear hb2))
   | (go_at_call 14; go_loud (refine HFl.out.mono ?_; rintro e w3 ⟨⟨vA, vn, vc⟩, rfl, hX, hb3⟩; have HX := Lib.hid hX; have HB3 := Lib.hid (HB2.out.trans (hb3.mono HB2.out.size)); have HV3 := Lib.hid (HV2.out.trans (hb3.mono HV2.out.size)); clear hX hb3)))
  obtain ⟨xs, ts, hX⟩ := HX.out
  have HX := Lib.hid hX
  have hvn : vn = c.fl.length := hX.n
  have HVn := Lib.hid hvn
  have hv24 : vn ≤ 24 := by have := HOk.out.ow.n; have := HOk.out.len; omega
  clear hX hvn HFl
  go_loopw [6, 33] (fun v s wr => ∃ (j m cc : Nat) (B : Option Addr), j ≤ vn ∧ s = .int .i64 (j : Int) ∧ v = .slice B m cc ∧ Hid (wr.ownsRow w3.heap.size 68 4 (.slice B m cc) m (rowsV vaV (arrL (c.fl.take j))) ∧ (arrL (c.fl.take j)).length = m) ∧ Hid (Below w3.heap.size w3 wr)) (fun _ s _ => vn - (intOf s).toNat)
  case atStart => exact ⟨0, 0, 0, none, by omega, rfl, rfl, Lib.hid ⟨World.ownsRow_nil _ _ _ _, rfl⟩, Lib.hid (Below.refl _ _)⟩
  case round =>
   obtain ⟨j, m, cc, B, hj, rfl, rfl, HO, HBj⟩ := hrel
   obtain ⟨wo, hwo⟩ : ∃ wo : World, wo = wr := ⟨_, rfl⟩
   subst hwo
   by_cases hjt : j < vn
   ·have l0 : (0 : Int) ≤ (j : Int) := by omega
    have l1 : (j : Int) < (vn : Int) := by omega
    have hjw : IntKind.i64.wrap ((j : Int) + 1) = (j : Int) + 1 := IntWalk.i64_in _ (by omega)
    have hjc : j < c.fl.length := by rw [← HVn.out]; exact hjt
    have HXj := Lib.hid (HX.out.kept (.of_below HBj.out))
    obtain ⟨b, hA, hb, hcell⟩ := HXj.out.cells hjc
    have hA : vA = some ⟨b, 0, none⟩ := hA
    subst hA
    have HAt := Lib.hid (arrL_take hjc)
    have hfm : c.fl[j]! ∈ c.fl := by rw [getElem!_pos c.fl j hjc]; exact List.getElem_mem hjc
    have HFok := Lib.hid (HOk.out.fl _ hfm)
    have HF := Lib.hid (HXj.out.fl j hjc)
    obtain ⟨x, hx⟩ : ∃ x, xs[j]! = x := ⟨_, rfl⟩
    obtain ⟨tl, htl⟩ : ∃ tl, ts[j]! = tl := ⟨_, rfl⟩
    obtain ⟨f, hf⟩ : ∃ f, c.fl[j]! = f := ⟨_, rfl⟩
    rw [hx] at hcell
    rw [hx, htl, hf] at HF
    rw [hf] at HFok HAt
    have hm100 : m + 1 ≤ 100000000 := by have h1 := HO.out.2; have h2 := arrL_len (c.fl.take j); rw [List.length_take] at h2; omega
    have q0 := hcell 0 (by decide)
    have q1 := hcell 1 (by decide)
    have q2 := hcell 2 (by decide)
    have q3 := hcell 3 (by decide)
    have q4 := hcell 4 (by decide)
    have q5 := hcell 5 (by decide)
    have q6 := hcell 6 (by decide)
    have q7 := hcell 7 (by decide)
    simp only [fmV, List.getElem?_cons_succ, List.getElem?_cons_zero, Nat.add_zero] at q0 q1 q2 q3 q4 q5 q6 q7
    clear hcell hfm hx htl hf hjc hb
    obtain ⟨fcall, fwake, fslot, flands, fla, fln, flc, fna, fnn, fnc, fland, fnland⟩ := x
    dsimp only at q0 q1 q2 q3 q4 q5 q6 q7
    go_upto_region 8 with (fail)
    obtain ⟨w4, hw4⟩ : ∃ W, wo.alloc (.cells #[.string fcall, .int .i64 fwake, .int .i64 fslot, .bool flands, .slice fla fln flc, .slice fna fnn fnc, .int .i64 fland, .int .i64 fnland] 46) = W := ⟨_, rfl⟩
    rw [hw4]
    have hb4 : Below wo.heap.size wo w4 := by rw [← hw4]; exact (Below.refl _ _).alloc (Nat.le_refl _) _
    have hr4 : w4.heap[wo.heap.size]? = some (.cells #[.string fcall, .int .i64 fwake, .int .i64 fslot, .bool flands, .slice fla fln flc, .slice fna fnn fnc, .int .i64 fland, .int .i64 fnland] 46 (0, 0)) := by rw [← hw4]; exact heap_alloc_new _ _
    have HB4 := Lib.hid (HBj.out.trans (hb4.mono HBj.out.size))
    have HO4 := Lib.hid (own_below HO.out.1 hb4 (Nat.le_refl _))
    have r0 : w4.cell? ⟨wo.heap.size, 0, none⟩ = some (.string fcall) := cell_of_row w4 _ 0 _ _ _ hr4
    have r1 : w4.cell? ⟨wo.heap.size, 1, none⟩ = some (.int .i64 fwake) := cell_of_row w4 _ 1 _ _ _ hr4
    have r2 : w4.cell? ⟨wo.heap.size, 2, none⟩ = some (.int .i64 fslot) := cell_of_row w4 _ 2 _ _ _ hr4
    have r3 : w4.cell? ⟨wo.heap.size, 3, none⟩ = some (.bool flands) := cell_of_row w4 _ 3 _ _ _ hr4
    have r6 : w4.cell? ⟨wo.heap.size, 6, none⟩ = some (.int .i64 fland) := cell_of_row w4 _ 6 _ _ _ hr4
    have hfl : flands = f.lands := HF.out.lands
    clear q0 q1 q2 q3 q4 q5 q6 q7 hw4 hb4 hr4
    by_cases hl : f.lands = true
    ·obtain rfl : flands = true := by rw [hfl, hl]
     have HAt' : Hid (arrL (c.fl.take (j + 1)) = arrL (c.fl.take j) ++ [vaF f]) := Lib.hid (by rw [HAt.out, if_pos hl])
     have HRow : Hid (vaV (vaF f) = [.string fcall, .int .i64 fwake, .int .i64 fland, .int .i64 fslot]) := Lib.hid (by
      unfold vaV
      rw [vaF_ok HFok.out]
      have e1 := HF.out.call
      have e2 := HF.out.wake
      have e3 := HF.out.land
      have e4 := HF.out.slot
      dsimp only at e1 e2 e3 e4
      simp only [It.row, itF, e1, e2, e3, e4])
     obtain ⟨i68, E0, E1, E2, E3⟩ := info_parts it_info
     clear hl hfl HAt
     go_wp2_with (at_builtin; go_loud (refine wpList_append_oneN _ w4.heap.size rfl #[.string fcall, .int .i64 fwake, .int .i64 fland, .int .i64 fslot] rfl (.tmp 39) (.tmp 49) 66 rfl w3.heap.size 68 i68 _ 4 40 Tryz.underlying66 E0 E1 E2 E3 rfl (by decide) (.slice B m cc) m _ rfl HO4.out rfl rfl (by simp [Value.oneCell']) (by omega) (by decide) (HB4.out.size) ?_; intro g8 cap8 w8 hv8 hg8 hat8 hlt8; have HO8 := Lib.hid hv8; have HB8 := Lib.hid (below_app HB4.out HB4.out.size HO4.out (Nat.le_refl _) hg8); clear hv8 hg8 hat8 hlt8))
     go_roundw
     case rel => exact ⟨j + 1, m + 1, cap8, _, by omega, by go_num, rfl, Lib.hid ⟨by rw [HAt'.out, rowsV_snoc, HRow.out]; exact HO8.out, by rw [HAt'.out, List.length_append, HO.out.2]; rfl⟩, HB8⟩
     case measure => simp [intOf]; omega
    ·obtain rfl : flands = false := by rw [hfl]; simpa using hl
     have HAt' : Hid (arrL (c.fl.take (j + 1)) = arrL (c.fl.take j)) := Lib.hid (by rw [HAt.out, if_neg hl])
     clear hl hfl HAt
     go_wp2_with fail
     go_roundw
     case rel => exact ⟨j + 1, m, cc, B, by omega, by go_num, rfl, Lib.hid ⟨by rw [HAt'.out]; exact HO4.out, by rw [HAt'.out]; exact HO.out.2⟩, HB4⟩
     case measure => simp [intOf]; omega
   ·obtain rfl : vn = j := by omega
    have l1 : ¬ (vn : Int) < (vn : Int) := by omega
    have hall : c.fl.take vn = c.fl := by rw [HVn.out]; exact List.take_length
    have hown := HO.out.1
    have hlen := HO.out.2
    rw [hall] at hown hlen
    have hm24 : m ≤ 24 := by have h2 := arrL_len c.fl; rw [← HVn.out] at h2; omega
    have HSort := Lib.hid (HSo.out B cc m w3.heap.size _ wo hown hlen (by omega) HBj.out.size)
    have HLen := Lib.hid hlen
    have HVo : Hid (Below V.heap.size V wo) := Lib.hid (HV3.out.trans (HBj.out.mono HV3.out.size))
    have HBo : Hid (Below w.heap.size w wo) := Lib.hid (HB3.out.trans (HBj.out.mono HB3.out.size))
    have hcc : m ≤ maxLen := by unfold maxLen; omega
    clear hown hlen hall hj hjt l1
    have l1 : ¬ (vn : Int) < (vn : Int) := by omega
    go_upto_region 13 with (go_at_call 23; go_loud (refine HSort.out.mono ?_; rintro e ws ⟨rfl, ⟨s, hsp, hss, hsl⟩, hbs⟩; have HP := Lib.hid hsp; have HS0 := Lib.hid hss; have HSl := Lib.hid hsl; have HVs := Lib.hid (HVo.out.trans (hbs.mono HV3.out.size)); have HBs := Lib.hid (HBo.out.trans (hbs.mono HB3.out.size)); clear hsp hss hsl hbs))
    have hsm : s.length = m := by rw [HP.out.length_eq, HLen.out]
    have HSm := Lib.hid hsm
    clear hsm
    go_loopw [9] (fun t wr => ∃ q : Nat, 1 ≤ q ∧ q ≤ max m 1 ∧ t = .int .i64 (q : Int) ∧ Hid (∀ i, i + 1 < q → (vi s i).rd < (vi s (i + 1)).rd) ∧ Hid (Below ws.heap.size ws wr)) (fun t _ => max m 1 - (intOf t).toNat)
    case atStart => exact ⟨1, by omega, by omega, rfl, Lib.hid (fun i hi => absurd hi (by omega)), Lib.hid (Below.refl _ _)⟩
    case round =>
     obtain ⟨q, hq1, hqm, rfl, HUp, HBq⟩ := hrel
     obtain ⟨wq, hwq⟩ : ∃ wq : World, wq = wr := ⟨_, rfl⟩
     subst hwq
     by_cases hqt : q < m
     ·obtain ⟨p, hp⟩ : ∃ p, q - 1 = p := ⟨_, rfl⟩
      have hpq : p + 1 = q := by omega
      have hpw : IntKind.i64.wrap ((q : Int) - 1) = (p : Int) := by rw [show (q : Int) - 1 = (p : Int) by omega]; exact IntWalk.i64_in _ (by omega)
      have hqw : IntKind.i64.wrap ((q : Int) + 1) = (q : Int) + 1 := IntWalk.i64_in _ (by omega)
      have l0 : (0 : Int) ≤ (q : Int) := by omega
      have l2 : (q : Int) < (m : Int) := by omega
      have l3 : (0 : Int) ≤ (p : Int) := by omega
      have l4 : (p : Int) < (m : Int) := by omega
      have hslq := (HSl.out.below HBq.out)
      obtain ⟨xb, xo, rfl, hxb, hxr⟩ := hslq (by omega)
      have k1 : wq.cell? ⟨xb, xo + q * 4 + 2, none⟩ = some (.int .i64 (vi s q).rd) := hxr q hqt 2 _ rfl
      have k2 : wq.cell? ⟨xb, xo + p * 4 + 2, none⟩ = some (.int .i64 (vi s p).rd) := hxr p (by omega) 2 _ rfl
      obtain ⟨rq, hrq⟩ : ∃ z, (vi s q).rd = z := ⟨_, rfl⟩
      obtain ⟨rp, hrp⟩ : ∃ z, (vi s p).rd = z := ⟨_, rfl⟩
      have hle : rp ≤ rq := by rw [← hrq, ← hrp]; exact HS0.out p q (by omega) (by rw [HSm.out]; exact hqt)
      have HRq := Lib.hid hrq
      have HRp := Lib.hid hrp
      rw [hrq] at k1
      rw [hrp] at k2
      clear hslq hxr hxb hrq hrp
      by_cases he : rq = rp
      ·subst he
       go_wp2_with fail
       go_quiet (fail)
       go_wp2_with fail
       go_ret
       exact ⟨rfl, HBs.out.trans (below_drewN (HBq.out.mono HBs.out.size) _)⟩
      ·have ee : (rq == rp) = false := by simpa using he
       go_wp2_with fail
       go_quiet (fail)
       go_wp2_with fail
       go_roundw
       case rel => exact ⟨q + 1, by omega, by omega, by go_num, Lib.hid (fun i hi => by
        by_cases h : i + 1 < q
        ·exact HUp.out i h
        ·have h1 : i = p := by omega
         have h2 : i + 1 = q := by omega
         rw [h2, h1, HRq.out, HRp.out]; omega), Lib.hid (below_drewN HBq.out _)⟩
       case measure => simp [intOf]; omega
     ·have l2 : ¬ (q : Int) < (m : Int) := by omega
      have hprom : Prom S s := prom_of HS.out HOk.out HPw.out HP.out (by rw [HSm.out]; omega) fun k hk => HUp.out k (by rw [HSm.out] at hk; omega)
      have hcode := hprom.code
      have hat := hprom.at_
      have hslot := hprom.slot
      rw [HSm.out] at hcode hat hslot
      have HAt := Lib.hid hat
      have hslq := HSl.out.below HBq.out
      have hsu := HSu.out wq (HVs.out.trans (HBq.out.mono HVs.out.size))
      have HBQ := Lib.hid (HBs.out.trans (HBq.out.mono HBs.out.size))
      have HVQ := Lib.hid (HVs.out.trans (HBq.out.mono HVs.out.size))
      have HT := Lib.hid (fun (W : World) (hb : Below ws.heap.size ws W) => Times_ok B m cc (vi s) (gapA S) S.g W ((HSl.out.below hb).more hb.size) hcc (gapA_ok S) hcode)
      have HL := Lib.hid (fun (W : World) (hb : Below ws.heap.size ws W) => Late_ok B m cc (vi s) (gapA S) S.g W ((HSl.out.below hb).more hb.size) hcc (gapA_ok S) hcode hslot)
      unfold gapA at HT HL
      have u0 : wq.cell? ⟨w.heap.size, 2, none⟩ = some (.int .i64 (S.g 0)) := cell_of_row _ _ 2 _ _ _ hsu
      have u1 : wq.cell? ⟨w.heap.size, 3, none⟩ = some (.int .i64 (S.g 1)) := cell_of_row _ _ 3 _ _ _ hsu
      have u2 : wq.cell? ⟨w.heap.size, 4, none⟩ = some (.int .i64 (S.g 2)) := cell_of_row _ _ 4 _ _ _ hsu
      have u3 : wq.cell? ⟨w.heap.size, 5, none⟩ = some (.int .i64 (S.g 3)) := cell_of_row _ _ 5 _ _ _ hsu
      have u4 : wq.cell? ⟨w.heap.size, 6, none⟩ = some (.int .i64 (S.g 4)) := cell_of_row _ _ 6 _ _ _ hsu
      have u5 : wq.cell? ⟨w.heap.size, 7, none⟩ = some (.int .i64 (S.g 5)) := cell_of_row _ _ 7 _ _ _ hsu
      have u6 : wq.cell? ⟨w.heap.size, 8, none⟩ = some (.int .i64 (S.g 6)) := cell_of_row _ _ 8 _ _ _ hsu
      have u7 : wq.cell? ⟨w.heap.size, 9, none⟩ = some (.int .i64 (S.g 7)) := cell_of_row _ _ 9 _ _ _ hsu
      have u8 : wq.cell? ⟨w.heap.size, 10, none⟩ = some (.int .i64 (S.g 8)) := cell_of_row _ _ 10 _ _ _ hsu
      have u9 : wq.cell? ⟨w.heap.size, 11, none⟩ = some (.int .i64 (S.g 9)) := cell_of_row _ _ 11 _ _ _ hsu
      have u10 : wq.cell? ⟨w.heap.size, 12, none⟩ = some (.int .i64 (S.g 10)) := cell_of_row _ _ 12 _ _ _ hsu
      have u11 : wq.cell? ⟨w.heap.size, 13, none⟩ = some (.int .i64 (S.g 11)) := cell_of_row _ _ 13 _ _ _ hsu
      have u12 : wq.cell? ⟨w.heap.size, 14, none⟩ = some (.int .i64 (S.g 12)) := cell_of_row _ _ 14 _ _ _ hsu
      have u13 : wq.cell? ⟨w.heap.size, 15, none⟩ = some (.int .i64 (S.g 13)) := cell_of_row _ _ 15 _ _ _ hsu
      have u14 : wq.cell? ⟨w.heap.size, 16, none⟩ = some (.int .i64 (S.g 14)) := cell_of_row _ _ 16 _ _ _ hsu
      have u15 : wq.cell? ⟨w.heap.size, 17, none⟩ = some (.int .i64 (S.g 15)) := cell_of_row _ _ 17 _ _ _ hsu
      clear hprom hcode hat hslot hslq hsu hqm hq1
      go_upto_region 18 with (go_at_call 25; go_loud (refine (HT.out _ HBq.out).mono ?_; rintro e wt ⟨v, rfl, hT, hb1⟩; obtain ⟨T, ct, rfl⟩ := own_shape hT; have HTo := Lib.hid hT; have HBt := Lib.hid (HBq.out.trans (hb1.mono HBq.out.size)); have HBT := Lib.hid (HBQ.out.trans (hb1.mono HBQ.out.size)); have HVT := Lib.hid (HVQ.out.trans (hb1.mono HVQ.out.size)); clear hT hb1))
      have hsu := HSu.out wt HVT.out
      have v0 : wt.cell? ⟨w.heap.size, 2, none⟩ = some (.int .i64 (S.g 0)) := cell_of_row _ _ 2 _ _ _ hsu
      have v1 : wt.cell? ⟨w.heap.size, 3, none⟩ = some (.int .i64 (S.g 1)) := cell_of_row _ _ 3 _ _ _ hsu
      have v2 : wt.cell? ⟨w.heap.size, 4, none⟩ = some (.int .i64 (S.g 2)) := cell_of_row _ _ 4 _ _ _ hsu
      have v3 : wt.cell? ⟨w.heap.size, 5, none⟩ = some (.int .i64 (S.g 3)) := cell_of_row _ _ 5 _ _ _ hsu
      have v4 : wt.cell? ⟨w.heap.size, 6, none⟩ = some (.int .i64 (S.g 4)) := cell_of_row _ _ 6 _ _ _ hsu
      have v5 : wt.cell? ⟨w.heap.size, 7, none⟩ = some (.int .i64 (S.g 5)) := cell_of_row _ _ 7 _ _ _ hsu
      have v6 : wt.cell? ⟨w.heap.size, 8, none⟩ = some (.int .i64 (S.g 6)) := cell_of_row _ _ 8 _ _ _ hsu
      have v7 : wt.cell? ⟨w.heap.size, 9, none⟩ = some (.int .i64 (S.g 7)) := cell_of_row _ _ 9 _ _ _ hsu
      have v8 : wt.cell? ⟨w.heap.size, 10, none⟩ = some (.int .i64 (S.g 8)) := cell_of_row _ _ 10 _ _ _ hsu
      have v9 : wt.cell? ⟨w.heap.size, 11, none⟩ = some (.int .i64 (S.g 9)) := cell_of_row _ _ 11 _ _ _ hsu
      have v10 : wt.cell? ⟨w.heap.size, 12, none⟩ = some (.int .i64 (S.g 10)) := cell_of_row _ _ 12 _ _ _ hsu
      have v11 : wt.cell? ⟨w.heap.size, 13, none⟩ = some (.int .i64 (S.g 11)) := cell_of_row _ _ 13 _ _ _ hsu
      have v12 : wt.cell? ⟨w.heap.size, 14, none⟩ = some (.int .i64 (S.g 12)) := cell_of_row _ _ 14 _ _ _ hsu
      have v13 : wt.cell? ⟨w.heap.size, 15, none⟩ = some (.int .i64 (S.g 13)) := cell_of_row _ _ 15 _ _ _ hsu
      have v14 : wt.cell? ⟨w.heap.size, 16, none⟩ = some (.int .i64 (S.g 14)) := cell_of_row _ _ 16 _ _ _ hsu
      have v15 : wt.cell? ⟨w.heap.size, 17, none⟩ = some (.int .i64 (S.g 15)) := cell_of_row _ _ 17 _ _ _ hsu
      clear hsu
      go_upto_region 19 with (go_at_call 26; go_loud (refine (HL.out _ HBt.out).mono ?_; rintro e wl ⟨rfl, hb1⟩; have HTl := Lib.hid (((Sl_ints HTo.out).below hb1).more hb1.size); have HBl := Lib.hid (HBt.out.trans (hb1.mono HBt.out.size)); have HBL := Lib.hid (HBT.out.trans (hb1.mono HBT.out.size)); clear hb1))
      go_upto_region 22 with (fail)
      go_loopw [106] (fun t wr => ∃ j : Nat, j ≤ m ∧ t = .int .i64 (j : Int) ∧ Hid (Below wl.heap.size wl wr)) (fun t _ => m - (intOf t).toNat)
      case atStart => exact ⟨0, by omega, rfl, Lib.hid (Below.refl _ _)⟩
      case round =>
       obtain ⟨j, hj, rfl, HBj2⟩ := hrel
       obtain ⟨wx, hwx⟩ : ∃ wx : World, wx = wr := ⟨_, rfl⟩
       subst hwx
       by_cases hjm : j < m
       ·have l0 : (0 : Int) ≤ (j : Int) := by omega
        have l5 : (j : Int) < (m : Int) := by omega
        have hjw : IntKind.i64.wrap ((j : Int) + 1) = (j : Int) + 1 := IntWalk.i64_in _ (by omega)
        obtain ⟨xb, xo, rfl, hxb, hxr⟩ := (HSl.out.below (HBl.out.trans (HBj2.out.mono HBl.out.size))) (by omega)
        have k1 : wx.cell? ⟨xb, xo + j * 4 + 2, none⟩ = some (.int .i64 (vi s j).rd) := hxr j hjm 2 _ rfl
        obtain ⟨bt, ot, rfl, hbt, hrt⟩ := (HTl.out.below HBj2.out).one (by omega)
        have k2 : wx.cell? ⟨bt, ot + j, none⟩ = some (.int .i64 (tT S.g (vi s) j)) := hrt j hjm
        rw [HAt.out j hjm] at k2
        obtain ⟨rq, hrq⟩ : ∃ z, (vi s j).rd = z := ⟨_, rfl⟩
        rw [hrq] at k1 k2
        clear hxr hxb hrq hrt hbt
        go_wp2_with fail
        go_quiet (fail)
        go_wp2_with fail
        go_roundw
        case rel => exact ⟨j + 1, by omega, by go_num, Lib.hid (below_drewN HBj2.out _)⟩
        case measure => simp [intOf]; omega
       ·obtain rfl : m = j := by omega
        have l5 : ¬ (m : Int) < (m : Int) := by omega
        go_wp2_with fail
        go_ret
        exact ⟨rfl, HBL.out.trans (HBj2.out.mono HBL.out.size)⟩
 ·have HCt' := Lib.hid (HCt.out.mono (by
   rintro e w' ⟨⟨_, h1⟩ | ⟨h1, _⟩, h7⟩
   ·exact ⟨h1, h7⟩
   ·exact absurd h1 hE : ∀ e w', _ → e = .returned (.pointer none) ∧ Below V.heap.size V w'))
  obtain ⟨k0, hk0⟩ : ∃ k, suE S = k := ⟨_, rfl⟩
  have hk1 : k0 ≠ 0 := by rw [← hk0]; exact hE
  have HK : Hid (setE S.lat S.vert S.g = k0) := Lib.hid hk0
  have ek : (k0 != 0) = true := by simpa using hk1
  clear HCt hE hk0 hk1
  go_enter Tryz.func8, Tryz.ntmps8
  have tok1 : True := trivial
  go_wp2_with (first
   | (first | (refine wpList_load_row rfl 27 _ rfl w.heap.size rfl 27 _ (0, 0) _ HG0.out Tryz.underlying27 rfl (by kernel_rfl) ?_) | (refine wpList_load_row_w 27 _ rfl w.heap.size rfl rfl 27 _ (0, 0) _ HG0.out Tryz.underlying27 rfl (by kernel_rfl) ?_))
   | (first | (refine wpList_load_row rfl 27 _ rfl w.heap.size rfl 27 _ (0, 0) _ HG3.out Tryz.underlying27 rfl (by kernel_rfl) ?_) | (refine wpList_load_row_w 27 _ rfl w.heap.size rfl rfl 27 _ (0, 0) _ HG3.out Tryz.underlying27 rfl (by kernel_rfl) ?_))
   | (go_at_call 12; go_loud (refine HCt'.out.mono ?_; rintro e w1 ⟨rfl, hb1⟩; have HB1 := Lib.hid (HBV.out.trans (hb1.mono HBV.out.size)); have HV1 := Lib.hid hb1; clear hb1))
   | (go_at_call 10; have _t := tok1; clear tok1; go_loud (refine (HFact.out _ HB1.out).mono ?_; rintro e w2 ⟨rfl, hb2⟩; have HB2 := Lib.hid (HB1.out.trans (hb2.mono HB1.out.size)); have HV2 := Lib.hid (HV1.out.trans (hb2.mono HV1.out.size)); clear hb2))
   | (go_at_call 10; go_loud (refine (HFact.out _ HB2.out).mono ?_; rintro e w3 ⟨rfl, hb3⟩; have HB3 := Lib.hid (HB2.out.trans (hb3.mono HB2.out.size)); have HG3 := Lib.hid (HSu.out w3 (HV2.out.trans (hb3.mono HV2.out.size))); clear hb3))
   | (go_at_call 13; go_loud (refine (HCk.out _).mono ?_; rintro e w4 ⟨rfl, hb4⟩; have HB4 := Lib.hid (HB3.out.trans (hb4.mono HB3.out.size)); rw [HK.out]; clear hb4)))
  go_ret
  exact ⟨rfl, HB4.out⟩
end Go.Proofs.YtaebebpldkciiaaGreatDoor
