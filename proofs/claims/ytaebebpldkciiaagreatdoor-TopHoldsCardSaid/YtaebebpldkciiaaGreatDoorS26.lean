/- TopHolds: the walk. -/
import Derived.Test.YtaebebpldkciiaaGreatDoorB3
import Derived.Test.YtaebebpldkciiaaGreatDoorS11
import Derived.Test.YtaebebpldkciiaaGreatDoorS24
import Derived.Test.YtaebebpldkciiaaGreatDoorS25
namespace Go.Proofs.YtaebebpldkciiaaGreatDoor
open Go.RowKit

set_option maxRecDepth 100000 in
set_option maxHeartbeats 32000000 in
theorem TopHolds_any (S : Su) (l : List Inp) (hs : List Hd) (n : Nat) (A : Option Addr) (cA : Nat) (w : World) (hks : KsAt kindsS w) (h0 : 0 < w.heap.size) (hI : InsA w.heap.size A n l hs w) (hcap : n ≤ cA ∧ cA ≤ maxLen) (hnil : A = none → n = 0 ∧ cA = 0)
    (hfact : ∀ W, Below w.heap.size w W → Calls Tryz.prog 10 #[] W fun e w' => e = .returned (.bool true) ∧ Below W.heap.size W w') :
    Calls Tryz.prog 4 #[suA S, .slice A n cA] w fun e w' => e = .returned (.bool true) ∧ Below w.heap.size w w' := by
  obtain ⟨V, hV⟩ : ∃ V, w.alloc (suO S) = V := ⟨_, rfl⟩
  have hbV : Below w.heap.size w V := by rw [← hV]; exact (Below.refl _ _).alloc (Nat.le_refl _) _
  have hg0 : SuAt S w.heap.size V := by rw [← hV]; exact heap_alloc_new _ _
  have hzV : V.heap.size = w.heap.size + 1 := by rw [← hV, size_al]
  have HZ := Lib.hid hzV
  have HBV := Lib.hid hbV
  have HCt := Lib.hid (dCentre_any S l hs V.heap.size n A cA V (hks.below hbV h0) (by omega) (Nat.le_refl _) (have h1 := hI.below hbV; ⟨h1.ln, h1.hn, h1.row.more hbV.size, fun i hi => ⟨(h1.tube i hi).1, (h1.tube i hi).2.more hbV.size⟩, h1.bd⟩) hcap hnil)
  have HFact := Lib.hid hfact
  have HCk := Lib.hid (fun (W : World) => CCheck_any S.lat S.vert S.g W)
  unfold SuAt suL at hg0
  have HG0 := Lib.hid hg0
  have HSu := Lib.hid (fun (W : World) (hb : Below V.heap.size V W) => (hb.block w.heap.size (by omega)).trans hg0)
  unfold suO at hV
  unfold suA setupA at HCt ⊢
  unfold setupA at HCk
  clear hks h0 hI hcap hnil hfact hg0 hzV hbV
  by_cases hE : suE S = 0
  · have HCt' := Lib.hid (HCt.out.mono (by
      rintro e w' ⟨⟨h1, _⟩ | ⟨_, g, c, F, h2, h3, h4, h5, h6⟩, h7⟩
      · exact absurd hE h1
      · exact ⟨g, c, F, h2, h3, h4, h7⟩ : ∀ e w', _ → ∃ g c F, e = .returned (.pointer (some ⟨g, 0, none⟩)) ∧ CeAt F g S c w' ∧ CeOk c ∧ Below V.heap.size V w'))
    clear HCt HCk
    go_enter Tryz.func4, Tryz.ntmps4
    go_upto_region 5 with (first
      | (first | (refine wpList_load_row rfl 27 _ rfl w.heap.size rfl 27 _ (0, 0) _ HG0.out Tryz.underlying27 rfl (by kernel_rfl) ?_) | (refine wpList_load_row_w 27 _ rfl w.heap.size rfl rfl 27 _ (0, 0) _ HG0.out Tryz.underlying27 rfl (by kernel_rfl) ?_))
      | (go_at_call 12; go_loud (refine HCt'.out.mono ?_; rintro e w1 ⟨g, c, F, rfl, hc1, hok1, hb1⟩; have HC1 := Lib.hid hc1; have HOk := Lib.hid hok1; have HB1 := Lib.hid (HBV.out.trans (hb1.mono HBV.out.size)); have HV1 := Lib.hid hb1; clear hc1 hok1 hb1))
      | (go_at_call 10; go_loud (refine (HFact.out _ HB1.out).mono ?_; rintro e w2 ⟨rfl, hb2⟩; have HB2 := Lib.hid (HB1.out.trans (hb2.mono HB1.out.size)); have HFl := Lib.hid (HC1.out.elim fun y hy => Flights_any (hy.below hb2) HOk.out); clear hb2))
      | (go_at_call 14; go_loud (refine HFl.out.mono ?_; rintro e w3 ⟨⟨vA, vn, vc⟩, rfl, hX, hb3⟩; have HX := Lib.hid hX; have HB3 := Lib.hid (HB2.out.trans (hb3.mono HB2.out.size)); clear hX hb3)))
    obtain ⟨xs, ts, hX⟩ := HX.out
    have HX := Lib.hid hX
    have hvn : vn = c.fl.length := hX.n
    have HVn := Lib.hid hvn
    clear hX hvn HFl
    go_loopw [32] (fun s wr => ∃ j : Nat, j ≤ vn ∧ s = .int .i64 (j : Int) ∧ Hid (Below w3.heap.size w3 wr)) (fun s _ => vn - (intOf s).toNat)
    case atStart => exact ⟨0, by omega, rfl, Lib.hid (Below.refl _ _)⟩
    case round =>
      obtain ⟨j, hj, rfl, HBj⟩ := hrel
      obtain ⟨wo, hwo⟩ : ∃ wo : World, wo = wr := ⟨_, rfl⟩
      subst hwo
      by_cases hjt : j < vn
      · have l0 : (0 : Int) ≤ (j : Int) := by omega
        have l1 : (j : Int) < (vn : Int) := by omega
        have hjw : IntKind.i64.wrap ((j : Int) + 1) = (j : Int) + 1 := IntWalk.i64_in _ (by have := HVn.out; have := HOk.out.ow.n; have := HOk.out.len; omega)
        have hjc : j < c.fl.length := by rw [← HVn.out]; exact hjt
        have HXj := Lib.hid (HX.out.kept (.of_below HBj.out))
        obtain ⟨b, hA, hb, hcell⟩ := HXj.out.cells hjc
        have hA : vA = some ⟨b, 0, none⟩ := hA
        subst hA
        have hfm : c.fl[j]! ∈ c.fl := by rw [getElem!_pos c.fl j hjc]; exact List.getElem_mem hjc
        have HFok := Lib.hid (HOk.out.fl _ hfm)
        have HF := Lib.hid (HXj.out.fl j hjc)
        obtain ⟨x, hx⟩ : ∃ x, xs[j]! = x := ⟨_, rfl⟩
        obtain ⟨tl, htl⟩ : ∃ tl, ts[j]! = tl := ⟨_, rfl⟩
        obtain ⟨f, hf⟩ : ∃ f, c.fl[j]! = f := ⟨_, rfl⟩
        rw [hx] at hcell
        rw [hx, htl, hf] at HF
        rw [hf] at HFok
        have q0 := hcell 0 (by decide)
        have q1 := hcell 1 (by decide)
        have q2 := hcell 2 (by decide)
        have q3 := hcell 3 (by decide)
        have q4 := hcell 4 (by decide)
        have q5 := hcell 5 (by decide)
        have q6 := hcell 6 (by decide)
        have q7 := hcell 7 (by decide)
        simp only [fmV, List.getElem?_cons_succ, List.getElem?_cons_zero, Nat.add_zero] at q0 q1 q2 q3 q4 q5 q6 q7
        clear hcell hfm hx htl hf hjc hb
        obtain ⟨fcall, fwake, fslot, flands, fla, fln, flc, fna, fnn, fnc, fland, fnland⟩ := x
        dsimp only at q0 q1 q2 q3 q4 q5 q6 q7
        go_upto_region 7 with (fail)
        obtain ⟨w4, hw4⟩ : ∃ W, wo.alloc (.cells #[.string fcall, .int .i64 fwake, .int .i64 fslot, .bool flands, .slice fla fln flc, .slice fna fnn fnc, .int .i64 fland, .int .i64 fnland] 46) = W := ⟨_, rfl⟩
        rw [hw4]
        have hb4 : Below wo.heap.size wo w4 := by rw [← hw4]; exact (Below.refl _ _).alloc (Nat.le_refl _) _
        have hr4 : w4.heap[wo.heap.size]? = some (.cells #[.string fcall, .int .i64 fwake, .int .i64 fslot, .bool flands, .slice fla fln flc, .slice fna fnn fnc, .int .i64 fland, .int .i64 fnland] 46 (0, 0)) := by rw [← hw4]; exact heap_alloc_new _ _
        have hz4 : w4.heap.size = wo.heap.size + 1 := by rw [← hw4, size_al]
        have HB4 := Lib.hid (HBj.out.trans (hb4.mono HBj.out.size))
        have HR4 := Lib.hid (fun (W : World) (hb : Below w4.heap.size w4 W) => (show W.heap[wo.heap.size]? = some (.cells #[.string fcall, .int .i64 fwake, .int .i64 fslot, .bool flands, .slice fla fln flc, .slice fna fnn fnc, .int .i64 fland, .int .i64 fnland] 46 (0, 0)) from (hb.block _ (by omega)).trans hr4))
        have HF4 := Lib.hid (fun (W : World) (hb : Below w4.heap.size w4 W) => (HF.out.kept (.of_below hb4)).kept (.of_below hb))
        clear q0 q1 q2 q3 q4 q5 q6 q7 hw4 hb4 hr4 hz4
        have HLn : Hid (fln = f.legs.length) := Lib.hid HF.out.ln
        have r4 : w4.cell? ⟨wo.heap.size, 4, none⟩ = some (.slice fla fln flc) := cell_of_row w4 _ 4 _ _ _ (HR4.out w4 (Below.refl _ _))
        by_cases h1 : fln = 1
        · obtain rfl : fln = 1 := h1
          have hlegs := (HF4.out w4 (Below.refl _ _)).fla.legs
          have hlen1 : f.legs.length = 1 := HLn.out.symm
          obtain ⟨leg, hleg⟩ := List.length_eq_one_iff.1 hlen1
          have HLeg := Lib.hid hleg
          obtain ⟨lb, loff, hla, hlb, hlc⟩ := hlegs.2 (show 0 < 1 by decide)
          have hla : fla = some ⟨lb, loff, none⟩ := hla
          subst hla
          obtain ⟨B, m, d, hcl, hT⟩ := hlc 0 (show 0 < 1 by decide)
          have hl0 : f.legs[0]! = leg := by rw [hleg]; rfl
          rw [hl0] at hT
          have hOkL : TuOk leg := by have := HFok.out.legs 0 (by omega); rwa [hl0] at this
          have HOkL := Lib.hid hOkL
          have HT := Lib.hid hT
          have c0 : w4.cell? ⟨lb, loff, none⟩ = some (.slice B m d) := hcl
          have hm0 : m ≠ 0 := by have h := hOkL.n0; have h2 := hT.1; omega
          have hm64 : m ≤ 64 := by have h := hOkL.n1; have h2 := hT.1; omega
          have em : ((m : Int) == 0) = false := by simp; omega
          obtain ⟨tb, toff, hB, htb, htr⟩ := hT.2 (by omega)
          subst hB
          have n0 : w4.cell? ⟨tb, toff, none⟩ = some (.int .i64 (fstT leg)) := by have h := htr 0 (by omega) 0 _ rfl; rw [show toff + 0 * 6 + 0 = toff by omega] at h; exact h
          have hft : 0 ≤ fstT leg ∧ fstT leg ≤ 200000 := ⟨(hOkL.nd 0 hOkL.n0).t0, (hOkL.nd 0 hOkL.n0).t1⟩
          clear hlegs hlen1 hleg hlb hlc hcl hT hl0 hOkL htb htr
          go_upto_region 9 with (fail)
          obtain ⟨fr, hfr⟩ : ∃ z, fstT leg = z := ⟨_, rfl⟩
          have HFr := Lib.hid hfr
          rw [hfr] at hft ⊢
          clear hfr n0
          have HBase := Lib.hid (fun (W : World) (hb : Below w4.heap.size w4 W) => (show W.cell? ⟨lb, loff, none⟩ = some (.slice (some ⟨tb, toff, none⟩) m d) from (hb.cell (p := ⟨lb, loff, none⟩) (World.block_lt_of_cell? w4 _ c0)).trans c0))
          clear c0 r4
          go_wp2_with fail
          go_loopw [9] (fun t wr => ∃ k : Nat, k ≤ 12 ∧ t = .int .i64 (fr + 9 * (k : Int)) ∧ Hid (Below w4.heap.size w4 wr)) (fun t _ => (fr + 200 - intOf t).toNat)
          case atStart => exact ⟨0, by omega, by simp, Lib.hid (Below.refl _ _)⟩
          case round =>
            obtain ⟨k, hk, rfl, HBk⟩ := hrel
            obtain ⟨wq, hwq⟩ : ∃ wq : World, wq = wr := ⟨_, rfl⟩
            subst hwq
            have k1 : IntKind.i64.wrap (fr + 100) = fr + 100 := IntWalk.i64_in _ (by omega)
            by_cases hlt : k < 12
            · obtain ⟨tt, htt⟩ : ∃ z, fr + 9 * (k : Int) = z := ⟨_, rfl⟩
              have l3 : tt < fr + 100 := by omega
              have k2 : IntKind.i64.wrap (tt + 9) = tt + 9 := IntWalk.i64_in _ (by omega)
              have HTt : Hid (fr ≤ tt ∧ tt = fr + 9 * (k : Int)) := Lib.hid ⟨by omega, htt.symm⟩
              rw [htt]
              have HAt := Lib.hid (At_any _ m d leg tt wq (HT.out.below HBk.out) (by unfold maxLen; omega))
              obtain ⟨⟨nd, ec⟩, hat⟩ : ∃ p, tubeAt leg tt = p := ⟨_, rfl⟩
              have HAtE := Lib.hid hat
              unfold AtP at HAt
              rw [hat] at HAt
              dsimp only at HAt
              unfold ndA at HAt
              have HPl := Lib.hid (fun (W : World) (hb : Below w4.heap.size w4 W) => Places24 (HF4.out W hb) HFok.out tt)
              obtain ⟨ns, hns⟩ : ∃ ns, placesP f tt = ns := ⟨_, rfl⟩
              have HNs := Lib.hid hns
              rw [hns] at HPl
              have hns2 : ns.length ≤ 2 := by rw [← hns]; exact places_len _ _
              obtain ⟨pl, hpl⟩ : ∃ z, ns.length = z := ⟨_, rfl⟩
              have HPn := Lib.hid hpl
              unfold fmA PlcP at HPl
              dsimp only at HPl
              rw [hpl] at HPl hns2
              have c0 : wq.cell? ⟨lb, loff, none⟩ = some (.slice (some ⟨tb, toff, none⟩) m d) := HBase.out wq HBk.out
              have r4 : wq.cell? ⟨wo.heap.size, 4, none⟩ = some (.slice (some ⟨lb, loff, none⟩) 1 flc) := cell_of_row wq _ 4 _ _ _ (HR4.out wq HBk.out)
              clear htt hat hns hpl
              go_upto_region 13 with (go_at_call 15; go_loud (refine HAt.out.mono ?_; rintro e w5 ⟨rfl, hb5⟩; have HB5 := Lib.hid (HBk.out.trans (hb5.mono HBk.out.size)); clear hb5))
              obtain ⟨w6, hw6⟩ : ∃ W, w5.alloc (.cells #[.int .i64 nd.t, .int .i64 nd.x, .int .i64 nd.y, .int .i64 nd.h, .int .i64 nd.r, .int .i64 nd.b] 52) = W := ⟨_, rfl⟩
              rw [hw6]
              have hb6 : Below w5.heap.size w5 w6 := by rw [← hw6]; exact (Below.refl _ _).alloc (Nat.le_refl _) _
              have HB6 := Lib.hid (HB5.out.trans (hb6.mono HB5.out.size))
              have hr6 : w6.heap[w5.heap.size]? = some (.cells #[.int .i64 nd.t, .int .i64 nd.x, .int .i64 nd.y, .int .i64 nd.h, .int .i64 nd.r, .int .i64 nd.b] 52 (0, 0)) := by rw [← hw6]; exact heap_alloc_new _ _
              have hz6 : w6.heap.size = w5.heap.size + 1 := by rw [← hw6, size_al]
              have HR6 := Lib.hid (fun (W : World) (hb : Below w6.heap.size w6 W) => (show W.heap[w5.heap.size]? = some (.cells #[.int .i64 nd.t, .int .i64 nd.x, .int .i64 nd.y, .int .i64 nd.h, .int .i64 nd.r, .int .i64 nd.b] 52 (0, 0)) from (hb.block _ (by omega)).trans hr6))
              have HP6 := Lib.hid (HPl.out w6 HB6.out)
              have HRw := Lib.hid (HR4.out w6 HB6.out)
              clear hw6 hb6 hr6 hz6 c0 r4 HPl
              go_upto_region 14 with (first
                | (first | (refine wpList_load_row rfl 46 _ rfl wo.heap.size rfl 46 _ (0, 0) _ HRw.out Tryz.underlying46 rfl (by kernel_rfl) ?_) | (refine wpList_load_row_w 46 _ rfl wo.heap.size rfl rfl 46 _ (0, 0) _ HRw.out Tryz.underlying46 rfl (by kernel_rfl) ?_))
                | (go_at_call 16; go_loud (refine HP6.out.mono ?_; rintro e w7 ⟨pA, pc, rfl, ho7, hb7⟩; have HO7 := Lib.hid ho7; have HR7 := Lib.hid (HR6.out w7 hb7); have HB7 := Lib.hid (HB6.out.trans (hb7.mono HB6.out.size)); clear ho7 hb7)))
              have HLt : Hid (fstT leg ≤ tt) := Lib.hid (by rw [HFr.out]; exact HTt.out.1)
              by_cases he : ec = 0
              · have HHas := Lib.hid (HasN_any pl pc pA ns nd w7 (Sl_rows ndV_len HO7.out HPn.out (by decide)) HPn.out (by omega))
                have hany : (ns.any fun y => eqN nd y) = true := by
                  have := places_has (f := f) HLeg.out HLt.out (by rw [HAtE.out]; exact he)
                  rwa [HAtE.out, HNs.out] at this
                rw [hany] at HHas
                unfold ndA at HHas
                subst he
                clear hany
                go_wp2_with (first
                  | (first | (refine wpList_load_row rfl 52 _ rfl w5.heap.size rfl 52 _ (0, 0) _ HR7.out Tryz.underlying52 rfl (by kernel_rfl) ?_) | (refine wpList_load_row_w 52 _ rfl w5.heap.size rfl rfl 52 _ (0, 0) _ HR7.out Tryz.underlying52 rfl (by kernel_rfl) ?_))
                  | (go_at_call 17; go_loud (refine HHas.out.mono ?_; rintro e w8 ⟨rfl, hb8⟩; have HB8 := Lib.hid (HB7.out.trans (hb8.mono HB7.out.size)); clear hb8)))
                go_roundw
                case rel => exact ⟨k + 1, by omega, by rw [HTt.out.2]; go_num, HB8⟩
                case measure => simp [intOf]; omega
              · have ee : (ec == 0) = false := by simp [he]
                have ee2 : (ec != 0) = true := by simp [he]
                have r5 : w7.cell? ⟨wo.heap.size, 5, none⟩ = some (.slice fna fnn fnc) := cell_of_row w7 _ 5 _ _ _ (HR4.out w7 HB7.out)
                by_cases hnn : fnn = 0
                · have hp0 : pl = 0 := by
                    have h1 : f.next.length = fnn := (HF4.out w4 (Below.refl _ _)).next.1.symm
                    have := places_no (f := f) HLeg.out HLt.out (by rw [HAtE.out]; exact he) (List.eq_nil_of_length_eq_zero (by omega))
                    rw [HNs.out] at this
                    rw [← HPn.out, this]
                    rfl
                  subst hp0 hnn
                  clear he
                  go_wp2_with fail
                  go_roundw
                  case rel => exact ⟨k + 1, by omega, by rw [HTt.out.2]; go_num, HB7⟩
                  case measure => simp [intOf]; omega
                · have en : ((fnn : Int) == 0) = false := by simp; omega
                  clear he hnn
                  go_wp2_with fail
                  go_roundw
                  case rel => exact ⟨k + 1, by omega, by rw [HTt.out.2]; go_num, HB7⟩
                  case measure => simp [intOf]; omega
            · have l3 : ¬ (fr + 9 * (k : Int) < fr + 100) := by omega
              go_wp2_with fail
              go_roundw
              case rel => exact ⟨j + 1, by omega, by go_num, Lib.hid (HB4.out.trans (HBk.out.mono HB4.out.size))⟩
              case measure => simp [intOf]; omega
        · have e1 : ((fln : Int) != 1) = true := by simp; omega
          go_wp2_with fail
          go_roundw
          case rel => exact ⟨j + 1, by omega, by go_num, HB4⟩
          case measure => simp [intOf]; omega
      · have l1 : ¬ (j : Int) < (vn : Int) := by omega
        go_wp2_with fail
        go_ret
        exact ⟨rfl, HB3.out.trans (HBj.out.mono HB3.out.size)⟩
  · have HCt' := Lib.hid (HCt.out.mono (by
      rintro e w' ⟨⟨_, h1⟩ | ⟨h1, _⟩, h7⟩
      · exact ⟨h1, h7⟩
      · exact absurd h1 hE : ∀ e w', _ → e = .returned (.pointer none) ∧ Below V.heap.size V w'))
    obtain ⟨k0, hk0⟩ : ∃ k, suE S = k := ⟨_, rfl⟩
    have hk1 : k0 ≠ 0 := by rw [← hk0]; exact hE
    have HK : Hid (setE S.lat S.vert S.g = k0) := Lib.hid hk0
    have ek : (k0 != 0) = true := by simpa using hk1
    clear HCt hE hk0 hk1
    go_enter Tryz.func4, Tryz.ntmps4
    have tok1 : True := trivial
    go_wp2_with (first
      | (first | (refine wpList_load_row rfl 27 _ rfl w.heap.size rfl 27 _ (0, 0) _ HG0.out Tryz.underlying27 rfl (by kernel_rfl) ?_) | (refine wpList_load_row_w 27 _ rfl w.heap.size rfl rfl 27 _ (0, 0) _ HG0.out Tryz.underlying27 rfl (by kernel_rfl) ?_))
      | (first | (refine wpList_load_row rfl 27 _ rfl w.heap.size rfl 27 _ (0, 0) _ HG3.out Tryz.underlying27 rfl (by kernel_rfl) ?_) | (refine wpList_load_row_w 27 _ rfl w.heap.size rfl rfl 27 _ (0, 0) _ HG3.out Tryz.underlying27 rfl (by kernel_rfl) ?_))
      | (go_at_call 12; go_loud (refine HCt'.out.mono ?_; rintro e w1 ⟨rfl, hb1⟩; have HB1 := Lib.hid (HBV.out.trans (hb1.mono HBV.out.size)); have HV1 := Lib.hid hb1; clear hb1))
      | (go_at_call 10; have _t := tok1; clear tok1; go_loud (refine (HFact.out _ HB1.out).mono ?_; rintro e w2 ⟨rfl, hb2⟩; have HB2 := Lib.hid (HB1.out.trans (hb2.mono HB1.out.size)); have HV2 := Lib.hid (HV1.out.trans (hb2.mono HV1.out.size)); clear hb2))
      | (go_at_call 10; go_loud (refine (HFact.out _ HB2.out).mono ?_; rintro e w3 ⟨rfl, hb3⟩; have HB3 := Lib.hid (HB2.out.trans (hb3.mono HB2.out.size)); have HG3 := Lib.hid (HSu.out w3 (HV2.out.trans (hb3.mono HV2.out.size))); clear hb3))
      | (go_at_call 13; go_loud (refine (HCk.out _).mono ?_; rintro e w4 ⟨rfl, hb4⟩; have HB4 := Lib.hid (HB3.out.trans (hb4.mono HB3.out.size)); rw [HK.out]; clear hb4)))
    go_ret
    exact ⟨rfl, HB4.out⟩
end Go.Proofs.YtaebebpldkciiaaGreatDoor
