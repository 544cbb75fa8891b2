/- TopTorn: the walk. -/
import Derived.Test.YtaebebpldkciiaaGreatDoorQB3
import Derived.Test.YtaebebpldkciiaaGreatDoorQS24
import Derived.Test.YtaebebpldkciiaaGreatDoorQRA8
import Derived.Test.YtaebebpldkciiaaGreatDoorQRS1
namespace Go.Proofs.YtaebebpldkciiaaGreatDoor
open Go.RowKit
open Go.Lib hiding intOf
instance : Inhabited Ent := ⟨zeroE⟩
theorem dd_small {u : Nat} (h : u < 10) : decDigits u = [UInt8.ofNat (48 + u)] := by
 rw [decDigits, dif_pos h]
theorem long0 : 14 < (encL E0).length := by
 have henc : encL E0 = preL E0 ++ 59 :: (decDigits (sumL (preL E0)) ++ [10]) := by unfold encL; rw [full_pre]
 have h1 : decDigits E0.num.toNat = [49] := dd_small (by decide)
 have h2 : decDigits E0.time.toNat = [53] := dd_small (by decide)
 have h3 : decDigits (bl E0.text).length = [51] := dd_small (by decide)
 have hp : preL E0 = [49] ++ 32 :: ([53] ++ 32 :: (bl E0.kind ++ 32 :: ([51] ++ 58 :: bl E0.text))) := by unfold preL; rw [h1, h2, h3]
 have h4 : (preL E0).length = 13 := by rw [hp]; rfl
 rw [henc, List.length_append, h4, List.length_cons, List.length_append, List.length_singleton]
 omega
set_option maxRecDepth 100000 in
set_option maxHeartbeats 2000000 in
theorem DRec_any (w : World) (he : Env w) : Calls Tryz.prog 27 #[] w fun x w' => x = .returned (.bool true) ∧ Below w.heap.size w w' := by
 have hl := long0
 have hl2 := (encL_len E0_ok).2
 have HEn := Lib.hid (Encode_ok E0 w E0_ok he)
 have hsz := size_mk (encL E0)
 obtain ⟨S, hS⟩ : ∃ S, mk (encL E0) = S := ⟨_, rfl⟩
 rw [hS] at HEn hsz
 rw [← hsz] at hl hl2
 unfold valE E0 at HEn
 simp only at HEn
 have HSt := Lib.hid (fun W (hW : Env W) => RStep_one W hW)
 unfold valE X0 at HSt
 simp only at HSt
 have HE := Lib.hid he
 have d1 : decide ((14 : Int) < (S.size : Int)) = true := by simp; omega
 clear he hS hsz hl hl2
 go_enter Tryz.func27, Tryz.ntmps27
 go_wp2_with (first
  | (go_at_call 35; go_loud (refine HEn.out.mono ?_; rintro e w1 ⟨rfl, hb1⟩))
  | (go_at_call 57; go_loud (refine (HSt.out _ (HE.out.below hb1)).mono ?_; rintro e w2 ⟨v, rfl, g1, c1, rfl, q1, hlt1, hb2⟩; unfold sB at q1)))
 go_ret
 exact ⟨rfl, bstep hb1 hb2⟩
theorem RNew_any (w : World) : Calls Tryz.prog 28 #[] w fun x w' => x = .returned (.pointer (some ⟨w.heap.size, 0, none⟩)) ∧ LogA w.heap.size none 0 [] w' ∧ Below w.heap.size w w' := by
 go_enter Tryz.func28, Tryz.ntmps28
 go_wp2
 go_ret
 exact ⟨rfl, ⟨heap_alloc_new w _, World.ownsRow_nil _ _ _ _⟩, (Below.refl _ _).alloc (Nat.le_refl _) _⟩
theorem add_next {L : List Ent} (h : LogOk L) {j : Nat} {x : Ent} (hx : L[j]? = some x) : newE (L.take j) x.time x.kind x.text = x ∧ addC (L.take j) x.time x.kind x.text = 0 ∧ Wf x ∧ L.take (j + 1) = L.take j ++ [x] := by
 have hj : j < L.length := (List.getElem?_eq_some_iff.1 hx).1
 obtain ⟨hn, ho⟩ := h.1 j x hx
 have hl : (L.take j).length = j := by rw [List.length_take]; omega
 have e : newE (L.take j) x.time x.kind x.text = x := by
  unfold newE
  rw [hl, ← hn]
 refine ⟨e, ?_, ho.wf, by rw [List.take_add_one, hx]; rfl⟩
 unfold addC
 rw [e, if_neg (by rw [chk_ok.2 ho]; decide), if_neg]
 rintro ⟨h0, hlt⟩
 obtain ⟨y, hy, hle⟩ := last_some h0
 rw [hl, List.getElem?_take, if_pos (by omega)] at hy
 have := h.2 (j - 1) y x hy (by rw [show j - 1 + 1 = j by omega]; exact hx)
 omega
theorem LogA.blk {g c : Nat} {A : Option Addr} {l : List Ent} {W : World} (h : LogA g A c l W) : ∀ a, A = some a → a.block < W.heap.size := by
 intro a ha
 rcases h.2.2 with ⟨hv, _⟩ | ⟨b, cp, cur, hv, _⟩
 ·injection hv with h1 _ _; rw [ha] at h1; cases h1
 ·injection hv with h1 _ _
  rw [ha] at h1
  injection h1 with h1
  subst h1
  have := (h.2.lt b (by rw [ha]; rfl)).2
  exact this
set_option maxRecDepth 100000 in
set_option maxHeartbeats 32000000 in
theorem TopTorn_any (S : Su) (l : List Inp) (hs : List Hd) (n : Nat) (A : Option Addr) (cA : Nat) (z : Int) (w : World) (hks : KsAt kindsS w) (h0 : 0 < w.heap.size) (hI : InsA w.heap.size A n l hs w) (hcap : n ≤ cA ∧ cA ≤ maxLen) (hnil : A = none → n = 0 ∧ cA = 0)
  (hfact : ∀ W, Below w.heap.size w W → Calls Tryz.prog 10 #[] W fun e w' => e = .returned (.bool true) ∧ Below W.heap.size W w') (he : Env w) :
  Calls Tryz.prog 9 #[suA S, .slice A n cA, .int .i64 z] w fun e w' => e = .returned (.bool true) ∧ Below w.heap.size w w' := by
 obtain ⟨V, hV⟩ : ∃ V, w.alloc (suO S) = V := ⟨_, rfl⟩
 have hbV : Below w.heap.size w V := by rw [← hV]; exact (Below.refl _ _).alloc (Nat.le_refl _) _
 have hg0 : SuAt S w.heap.size V := by rw [← hV]; exact heap_alloc_new _ _
 have hzV : V.heap.size = w.heap.size + 1 := by rw [← hV, size_al]
 have HBV := Lib.hid hbV
 have HCt := Lib.hid (dCentre_any S l hs V.heap.size n A cA V (hks.below hbV h0) (by omega) (Nat.le_refl _) (have h1 := hI.below hbV; ⟨h1.ln, h1.hn, h1.row.more hbV.size, fun i hi => ⟨(h1.tube i hi).1, (h1.tube i hi).2.more hbV.size⟩, h1.bd⟩) hcap hnil)
 have HFact := Lib.hid hfact
 have HEW := Lib.hid (fun (W : World) (hb : Below w.heap.size w W) => he.below hb)
 have HRec := Lib.hid (fun (W : World) (hb : Below w.heap.size w W) => DRec_any W (he.below hb))
 have HCk := Lib.hid (fun (W : World) => CCheck_any S.lat S.vert S.g W)
 unfold SuAt suL at hg0
 have HG0 := Lib.hid hg0
 have HSu := Lib.hid (fun (W : World) (hb : Below V.heap.size V W) => (hb.block w.heap.size (by omega)).trans hg0)
 unfold suO at hV
 unfold suA setupA at HCt ⊢
 unfold setupA at HCk
 clear hks h0 hI hcap hnil hfact hg0 hzV hbV he
 by_cases hE : suE S = 0
 ·have HCt' := Lib.hid (HCt.out.mono (by
   rintro e w' ⟨⟨h1, _⟩ | ⟨_, g, c, F, h2, h3, h4, h5, h6, _, h8⟩, h7⟩
   ·exact absurd hE h1
   ·exact ⟨g, c, F, h2, h3, h4, h6, h8, h7⟩ : ∀ e w', _ → ∃ g c F, e = .returned (.pointer (some ⟨g, 0, none⟩)) ∧ CeAt F g S c w' ∧ CeOk c ∧ c.acc ≤ 14 ∧ LogOk c.log ∧ Below V.heap.size V w'))
  clear HCt HCk
  go_enter Tryz.func9, Tryz.ntmps9
  go_upto_region 7 with (first
   | (first | (refine wpList_load_row rfl 27 _ rfl w.heap.size rfl 27 _ (0, 0) _ HG0.out Tryz.underlying27 rfl (by kernel_rfl) ?_) | (refine wpList_load_row_w 27 _ rfl w.heap.size rfl rfl 27 _ (0, 0) _ HG0.out Tryz.underlying27 rfl (by kernel_rfl) ?_))
   | (go_at_call 12; go_loud (refine HCt'.out.mono ?_; rintro e w1 ⟨g, c, F, rfl, hc1, hok1, hacc, hlog, hb1⟩; have HC1 := Lib.hid hc1; have HOk := Lib.hid hok1; have HLg := Lib.hid hlog; have HAcc := Lib.hid hacc; have HB1 := Lib.hid (HBV.out.trans (hb1.mono HBV.out.size)); clear hc1 hok1 hb1 hlog hacc))
   | (go_at_call 10; go_loud (refine (HFact.out _ HB1.out).mono ?_; rintro e w2 ⟨rfl, hb2⟩; have HV2 := Lib.hid hb2; have HB2 := Lib.hid (HB1.out.trans (hb2.mono HB1.out.size)); clear hb2))
   | (go_at_call 27; go_loud (refine (HRec.out _ HB2.out).mono ?_; rintro e w3 ⟨rfl, hb3⟩; have HV3 := Lib.hid (HV2.out.trans (hb3.mono HV2.out.size)); have HB3 := Lib.hid (HB2.out.trans (hb3.mono HB2.out.size)); clear hb3))
   | (go_at_call 28; go_loud (refine (RNew_any _).mono ?_; rintro e w4 ⟨rfl, hl4, hb4⟩; have HL4 := Lib.hid hl4; have HB4 := Lib.hid (HB3.out.trans (hb4.mono HB3.out.size)); have HV4 := Lib.hid (HV3.out.trans (hb4.mono HV3.out.size)); have HLo := Lib.hid (HC1.out.elim fun y hy => Log_any (hy.below HV4.out) HOk.out (by have := HAcc.out; omega)); clear hl4 hb4))
   | (go_at_call 29; go_loud (refine HLo.out.mono ?_; rintro e w5 ⟨B, cB, rfl, ho5, hb5⟩; have HO5 := Lib.hid ho5; have HL5 := Lib.hid (HL4.out.below hb5); have HB5 := Lib.hid (HB4.out.trans (hb5.mono HB4.out.size)); clear ho5 hb5)))
  obtain ⟨L, hL⟩ : ∃ L, c.log = L := ⟨_, rfl⟩
  have hl14 : L.length ≤ 14 := by rw [← hL, HOk.out.log]; exact HAcc.out
  have hlok := HLg.out
  rw [hL] at HO5 hlok ⊢
  have HLk := Lib.hid hlok
  obtain ⟨G, hG⟩ : ∃ G, w3.heap.size = G := ⟨_, rfl⟩
  have hG4 : G < w4.heap.size := by have := HL4.out.lt; omega
  have hwG : w.heap.size ≤ G := by have := HB3.out.size; omega
  rw [hG] at HL5 ⊢
  have hO5lt : ∀ k, (Value.slice B L.length cB).ownBlock = some k → w4.heap.size ≤ k ∧ k < w5.heap.size := fun k hk => ⟨HO5.out.2 k hk, (HO5.out.1.lt k hk).2⟩
  have HOlt := Lib.hid hO5lt
  have hcapB := own_cap HO5.out.1
  have hnilB := own_nil HO5.out.1
  clear hO5lt hlok
  go_loopw [48] (fun s wr => ∃ (j : Nat) (A2 : Option Addr) (c2 : Nat), j ≤ L.length ∧ s = .int .i64 (j : Int) ∧ Hid (LogA G A2 c2 (L.take j) wr) ∧ Hid (OwnF (fun k => w4.heap.size ≤ k) wr 78 4 (.slice B L.length cB) L.length (rowsV rowE L)) ∧ Hid (∀ a, A2 = some a → w5.heap.size ≤ a.block) ∧ Hid (w5.heap.size ≤ wr.heap.size ∧ Below w.heap.size w wr)) (fun s _ => L.length - (intOf s).toNat)
  case atStart => exact ⟨0, none, 0, by omega, rfl, HL5, HO5, Lib.hid (fun a ha => by cases ha), Lib.hid ⟨Nat.le_refl _, HB5.out⟩⟩
  case round =>
   obtain ⟨j, A2, c2, hj, rfl, HLA, HO, HA2, HB⟩ := hrel
   obtain ⟨wo, hwo⟩ : ∃ wo : World, wo = wr := ⟨_, rfl⟩
   subst hwo
   by_cases hjt : j < L.length
   ·have l0 : (0 : Int) ≤ (j : Int) := by omega
    have l1 : (j : Int) < (L.length : Int) := by omega
    have hjw : IntKind.i64.wrap ((j : Int) + 1) = (j : Int) + 1 := IntWalk.i64_in _ (by omega)
    have hsl : Sl wo wo.heap.size 4 B L.length (fun i => rowE L[i]!) := Sl_rows (show ∀ x : Ent, (rowE x).length = 4 from fun _ => rfl) HO.out.1 rfl (by decide)
    obtain ⟨b, off, hBe, hb, hrow⟩ := hsl (by omega)
    have hr : ∀ q v, (rowE L[j]!)[q]? = some v → wo.cell? ⟨b, off + j * 4 + q, none⟩ = some v := hrow j hjt
    have hx : L[j]? = some L[j]! := by rw [getElem!_pos L j hjt]; exact List.getElem?_eq_getElem hjt
    obtain ⟨x, hxe⟩ : ∃ x, L[j]! = x := ⟨_, rfl⟩
    rw [hxe] at hr hx
    obtain ⟨he1, he2, he3, he4⟩ := add_next HLk.out hx
    have hxn := (HLk.out.1 j x hx).1
    have hlen : (L.take j).length = j := by rw [List.length_take]; omega
    have HAd := Lib.hid (fun (W : World) (hb : Below wo.heap.size wo W) => Add_ok (HLA.out.below hb) x.time x.kind x.text (by rw [he1]; exact he3) he2 (by omega))
    rw [he1] at HAd
    unfold AddP at HAd
    rw [hlen, ← he4] at HAd
    have HAb := Lib.hid HLA.out.blk
    have hGo := HLA.out.lt
    subst hBe
    clear hsl hrow hxe he1 he2 he3 he4 hlen hx
    obtain ⟨xn, xt, xk, xx⟩ := x
    dsimp only at hxn HAd
    subst hxn
    have q0 : wo.cell? ⟨b, off + j * 4, none⟩ = some (.int .i64 ((j : Int) + 1)) := by have := hr 0 _ rfl; rwa [Nat.add_zero] at this
    have q1 : wo.cell? ⟨b, off + j * 4 + 1, none⟩ = some (.int .i64 xt) := hr 1 _ rfl
    have q2 : wo.cell? ⟨b, off + j * 4 + 2, none⟩ = some (.string xk) := hr 2 _ rfl
    have q3 : wo.cell? ⟨b, off + j * 4 + 3, none⟩ = some (.string xx) := hr 3 _ rfl
    clear hr
    go_upto_region 9 with (fail)
    obtain ⟨w6, hw6⟩ : ∃ W, wo.alloc (.cells #[.int .i64 ((j : Int) + 1), .int .i64 xt, .string xk, .string xx] 78) = W := ⟨_, rfl⟩
    rw [hw6]
    have hb6 : Below wo.heap.size wo w6 := by rw [← hw6]; exact (Below.refl _ _).alloc (Nat.le_refl _) _
    have hr6 : w6.heap[wo.heap.size]? = some (.cells #[.int .i64 ((j : Int) + 1), .int .i64 xt, .string xk, .string xx] 78 (0, 0)) := by rw [← hw6]; exact heap_alloc_new _ _
    have hz6 : w6.heap.size = wo.heap.size + 1 := by rw [← hw6, size_al]
    have r1 := cell_of_row w6 _ 1 _ _ _ hr6
    have r2 := cell_of_row w6 _ 2 _ _ _ hr6
    have r3 := cell_of_row w6 _ 3 _ _ _ hr6
    have HR6 := Lib.hid hr6
    have HB6 := Lib.hid hb6
    have HZ6 := Lib.hid hz6
    clear q0 q1 q2 q3 hw6 hr6 hb6 hz6
    go_upto_region 10 with (go_at_call 30; go_loud (refine (HAd.out _ HB6.out).mono ?_; rintro e w7 ⟨A3, c3, rfl, hla, hbg, hof, hA3⟩; have HLA3 := Lib.hid hla; have HBg := Lib.hid hbg; have HOf := Lib.hid hof; have HA3 := Lib.hid hA3; clear hla hbg hof hA3))
    have hr7 : w7.heap[wo.heap.size]? = some (.cells #[.int .i64 ((j : Int) + 1), .int .i64 xt, .string xk, .string xx] 78 (0, 0)) := (HOf.out _ (by have := HZ6.out; omega) (by omega) (fun a ha => by have := HAb.out a ha; omega)).trans HR6.out
    have s0 := cell_of_row w7 _ 0 _ _ _ hr7
    clear hr7
    go_wp2_with fail
    go_roundw
    case rel =>
     have h7 := HBg.out.size
     have hz := HZ6.out
     have hBo := HB.out.1
     exact ⟨j + 1, A3, c3, by omega, by go_num, HLA3, Lib.hid (HO.out.stay fun k hk => (by
      have hk5 := HOlt.out k hk
      exact (HOf.out k (by omega) (by omega) (fun a ha => by have := HA2.out a ha; omega)).trans (HB6.out.block k (by omega)))), Lib.hid (fun a ha => by
      rcases HA3.out a ha with ⟨a0, h1, h2⟩ | h1
      ·rw [← h2]; exact HA2.out a0 h1
      ·omega), Lib.hid ⟨by omega, (HB.out.2.trans (HB6.out.mono HB.out.2.size)).trans (HBg.out.mono hwG)⟩⟩
    case measure => simp [intOf]; omega
   ·obtain rfl : L.length = j := by omega
    have l1 : ¬ (L.length : Int) < (L.length : Int) := by omega
    have hla := HLA.out
    rw [List.take_length] at hla
    have hBw := HB.out.2
    have hall : Sl wo wo.heap.size 4 B L.length (fun i => rowE ((L[i]?).getD zeroE)) := (Sl_rows (show ∀ x : Ent, (rowE x).length = 4 from fun _ => rfl) HO.out.1 rfl (by decide) : Sl wo wo.heap.size 4 B L.length (fun i => rowE L[i]!)).congr fun i hi => by rw [getElem!_pos L i hi, List.getElem?_eq_getElem hi]; rfl
    have HBy := Lib.hid (Bytes_any hla (fun i e h => (HLk.out.1 i e h).2) (by omega) (HEW.out _ hBw))
    have hlS := encs_len (l := L) (fun i e h => (HLk.out.1 i e h).2)
    obtain ⟨Sx, hS⟩ : ∃ S, mk (encs L) = S := ⟨_, rfl⟩
    have hSb : bl Sx = encs L := by rw [← hS, bl_mk]
    have hSz : Sx.size = (encs L).length := by rw [← hS, size_mk]
    rw [hS] at HBy
    have HAll := Lib.hid hall
    have HSb := Lib.hid hSb
    have HBw := Lib.hid hBw
    have hS2 : Sx.size ≤ 2240 := by omega
    clear hla hBw hall hlS hS hSb hSz HLA HO HA2 HB hj hjt
    go_upto_region 14 with (go_at_call 31; go_loud (refine HBy.out.mono ?_; rintro e w8 ⟨rfl, hb8⟩; have HB8 := Lib.hid (HBw.out.trans (hb8.mono HBw.out.size)); have HAl8 := Lib.hid (HAll.out.below hb8); have HW8 := Lib.hid hb8.size; clear hb8))
    have hcb := cutI_bd (n := z) (lo := 0) (hi := (Sx.size : Int)) (by omega)
    obtain ⟨p, hp⟩ : ∃ p : Nat, cutI z 0 (Sx.size : Int) = (p : Int) := ⟨(cutI z 0 (Sx.size : Int)).toNat, by omega⟩
    have hps : p ≤ Sx.size := by omega
    have HP := Lib.hid hp
    clear hcb hp
    go_upto_region 15 with (go_at_call 20; go_loud (refine (Cut_any _ _ _ _ (by omega) (by omega) (by omega)).mono ?_; rintro e w8' ⟨rfl, rfl⟩; rw [HP.out]))
    have hsl := fun W => slice_str Sx p hps (by unfold maxLen; omega) W
    rw [HSb.out] at hsl
    have HRe := Lib.hid (Recover_any (mk ((encs L).take p)) w8 (by rw [size_mk, List.length_take]; omega) (HEW.out _ HB8.out))
    go_upto_region 16 with (go_at_call 32; go_loud (refine HRe.out.mono ?_; rintro e w9 ⟨lg, rest, rfl, ⟨A9, c9, hl9⟩, hok9, hsr, hst, hb9⟩; have HL9 := Lib.hid hl9; have HKo := Lib.hid hok9; have HSr := Lib.hid hsr; have HSt := Lib.hid hst; have HB9 := Lib.hid (HB8.out.trans (hb9.mono HB8.out.size)); have HAl9 := Lib.hid ((HAl8.out.more HW8.out).below hb9); have HW9 := Lib.hid hb9.size; clear hl9 hok9 hsr hst hb9))
    have hsr := HSr.out
    rw [bl_mk] at hsr
    obtain ⟨m, hm, hle, hup, hnx⟩ := torn_all HLk.out HKo.out HSt.out hsr
    have hlm : lg.length = m := by rw [hle, List.length_take]; omega
    have hgt : ∀ i, i < m → lg[i]? = L[i]? := fun i hi => by rw [hle, List.getElem?_take, if_pos hi]
    have HGt := Lib.hid hgt
    have HNx := Lib.hid hnx
    have HEn := Lib.hid (Entries_all HL9.out (by omega))
    rw [hlm] at HEn
    obtain ⟨u, hu⟩ : ∃ u, (encs lg).length = u := ⟨_, rfl⟩
    rw [hu] at hup HNx ⊢
    have d1 : decide ((p : Int) < (u : Int)) = false := by simp; omega
    have d1' : ¬ (p : Int) < (u : Int) := by omega
    clear hsl hsr hle hgt hnx hu
    go_upto_region 19 with (go_at_call 33; go_loud (refine HEn.out.mono ?_; rintro e w10 ⟨A10, c10, rfl, _, _, _, hs10, hb10⟩; have HS10 := Lib.hid hs10; have HW10 := Lib.hid hb10.size; have HB10 := Lib.hid (HB9.out.trans (hb10.mono HB9.out.size)); have HAl10 := Lib.hid ((HAl9.out.more (by have := HW9.out; have := HW8.out; omega)).below hb10); clear hs10 hb10))
    have h34 := fun W => slice34 L.length m hm hcapB.1 hnilB W
    have hw10 : w9.heap.size ≤ w10.heap.size := HW10.out
    have HEq := Lib.hid (EqualE A10 B (fun k => (L[k]?).getD zeroE) m c10 cB w10.heap.size w10 (HS10.out.congr fun i hi => by rw [HGt.out i hi]) ((HAl10.out.less hm).more (by omega)) (by omega))
    have e1 : decide ((L.length : Int) < (m : Int)) = false := by simp; omega
    have e1' : ¬ (L.length : Int) < (m : Int) := by omega
    go_upto_region 21 with (go_at_call 34; go_loud (refine HEq.out.mono ?_; rintro e w11 ⟨rfl, q11, rfl⟩))
    by_cases hmL : m < L.length
    ·have e2 : decide ((m : Int) < (L.length : Int)) = true := by simp; omega
     have e2' : (m : Int) < (L.length : Int) := by omega
     have m0 : (0 : Int) ≤ (m : Int) := by omega
     have hx : L[m]? = some L[m] := List.getElem?_eq_getElem hmL
     obtain ⟨x, hxe⟩ : ∃ x, L[m] = x := ⟨_, rfl⟩
     rw [hxe] at hx
     have hox := (HLk.out.1 m x hx).2
     obtain ⟨b, off, rfl, hb, q0, q1, q2, q3⟩ := Sl.four HAl10.out m hmL
     rw [hx] at q0 q1 q2 q3
     simp only [Option.getD_some] at q0 q1 q2 q3
     have HEc := Lib.hid (fun W hW => Encode_ok x W hox hW)
     have hez := size_mk (encL x)
     have hel := encL_len hox
     have hnxt := HNx.out x hx
     obtain ⟨Fx, hF⟩ : ∃ F, mk (encL x) = F := ⟨_, rfl⟩
     rw [hF] at HEc hez
     have hF1 : Fx.size ≤ 160 := by omega
     have how : IntKind.i64.wrap ((u : Int) + (Fx.size : Int)) = (u : Int) + (Fx.size : Int) := IntWalk.i64_in _ (by omega)
     have e3 : decide ((p : Int) < (u : Int) + (Fx.size : Int)) = true := by simp; omega
     have e3' : (p : Int) < (u : Int) + (Fx.size : Int) := by omega
     obtain ⟨xn, xt, xk, xx⟩ := x
     unfold valE at HEc
     simp only at HEc q0 q1 q2 q3
     clear hx hox hez hel hnxt hF hxe
     go_wp2_with (go_at_call 35; go_loud (refine (HEc.out _ (HEW.out _ (below_drewN HB10.out _))).mono ?_; rintro e w12 ⟨rfl, hb12⟩; have HB12 := Lib.hid ((below_drewN HB10.out _).trans (hb12.mono (below_drewN HB10.out _).size)); clear hb12))
     go_ret
     exact ⟨rfl, HB12.out⟩
    ·have e2 : decide ((m : Int) < (L.length : Int)) = false := by simp; omega
     have e2' : ¬ (m : Int) < (L.length : Int) := by omega
     go_wp2_with fail
     go_ret
     exact ⟨rfl, below_drewN HB10.out _⟩
 ·have HCt' := Lib.hid (HCt.out.mono (by
   rintro e w' ⟨⟨_, h1⟩ | ⟨h1, _⟩, h7⟩
   ·exact ⟨h1, h7⟩
   ·exact absurd h1 hE : ∀ e w', _ → e = .returned (.pointer none) ∧ Below V.heap.size V w'))
  obtain ⟨k0, hk0⟩ : ∃ k, suE S = k := ⟨_, rfl⟩
  have hk1 : k0 ≠ 0 := by rw [← hk0]; exact hE
  have HK : Hid (setE S.lat S.vert S.g = k0) := Lib.hid hk0
  have ek : (k0 != 0) = true := by simpa using hk1
  clear HCt hE hk0 hk1
  go_enter Tryz.func9, Tryz.ntmps9
  have tok1 : True := trivial
  have tok2 : True := trivial
  go_wp2_with (first
   | (first | (refine wpList_load_row rfl 27 _ rfl w.heap.size rfl 27 _ (0, 0) _ HG0.out Tryz.underlying27 rfl (by kernel_rfl) ?_) | (refine wpList_load_row_w 27 _ rfl w.heap.size rfl rfl 27 _ (0, 0) _ HG0.out Tryz.underlying27 rfl (by kernel_rfl) ?_))
   | (first | (refine wpList_load_row rfl 27 _ rfl w.heap.size rfl 27 _ (0, 0) _ HG5.out Tryz.underlying27 rfl (by kernel_rfl) ?_) | (refine wpList_load_row_w 27 _ rfl w.heap.size rfl rfl 27 _ (0, 0) _ HG5.out Tryz.underlying27 rfl (by kernel_rfl) ?_))
   | (go_at_call 12; go_loud (refine HCt'.out.mono ?_; rintro e w1 ⟨rfl, hb1⟩; have HB1 := Lib.hid (HBV.out.trans (hb1.mono HBV.out.size)); have HV1 := Lib.hid hb1; clear hb1))
   | (go_at_call 10; have _t := tok1; clear tok1; go_loud (refine (HFact.out _ HB1.out).mono ?_; rintro e w2 ⟨rfl, hb2⟩; have HB2 := Lib.hid (HB1.out.trans (hb2.mono HB1.out.size)); have HV2 := Lib.hid (HV1.out.trans (hb2.mono HV1.out.size)); clear hb2))
   | (go_at_call 27; have _t := tok2; clear tok2; go_loud (refine (HRec.out _ HB2.out).mono ?_; rintro e w3 ⟨rfl, hb3⟩; have HB3 := Lib.hid (HB2.out.trans (hb3.mono HB2.out.size)); have HV3 := Lib.hid (HV2.out.trans (hb3.mono HV2.out.size)); clear hb3))
   | (go_at_call 10; go_loud (refine (HFact.out _ HB3.out).mono ?_; rintro e w4 ⟨rfl, hb4⟩; have HB4 := Lib.hid (HB3.out.trans (hb4.mono HB3.out.size)); have HV4 := Lib.hid (HV3.out.trans (hb4.mono HV3.out.size)); clear hb4))
   | (go_at_call 27; go_loud (refine (HRec.out _ HB4.out).mono ?_; rintro e w5 ⟨rfl, hb5⟩; have HB5 := Lib.hid (HB4.out.trans (hb5.mono HB4.out.size)); have HG5 := Lib.hid (HSu.out w5 (HV4.out.trans (hb5.mono HV4.out.size))); clear hb5))
   | (go_at_call 13; go_loud (refine (HCk.out _).mono ?_; rintro e w6 ⟨rfl, hb6⟩; have HB6 := Lib.hid (HB5.out.trans (hb6.mono HB5.out.size)); rw [HK.out]; clear hb6)))
  go_ret
  exact ⟨rfl, HB6.out⟩
end Go.Proofs.YtaebebpldkciiaaGreatDoor
