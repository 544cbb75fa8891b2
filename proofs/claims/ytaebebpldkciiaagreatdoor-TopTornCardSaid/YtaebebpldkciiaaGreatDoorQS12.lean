/- Package season: a second of a sound centre. -/
import Derived.Test.YtaebebpldkciiaaGreatDoorQS11
namespace Go.Proofs.YtaebebpldkciiaaGreatDoor
open Go.RowKit
def SecP (R : Nat) (rs rn ra rr : Int) (n : Nat) (w : World) (e : Ending) (w' : World) : Prop :=
 e = .returned (.tuple #[]) ∧ Off (fun b => b = R) w w' ∧ w'.heap[R]? = some (.cells (repV rs (max rn n) ra rr) 32 (0, 0))
set_option maxRecDepth 100000 in
set_option maxHeartbeats 64000000 in
theorem second_any {F : Nat → Prop} {g : Nat} {S : Su} {c : Ce} {y : Lay} {w : World} {R : Nat} {rs rn ra rr : Int} {pA : Option Addr} {pn pc : Nat} {pk : Nat → Int} (h : CeM F g S c y w) (hok : CeOk c) (hS : SuOk S) (hp : Pw (fun _ => True) (SafeTwo S) c.fl)
  (t : Int) (ht0 : 0 ≤ t) (ht1 : t < 1000) (hT : TabAt w) (hR : w.heap[R]? = some (.cells (repV rs rn ra rr) 32 (0, 0))) (hP : Sl w w.heap.size 1 pA pn (fun i => [.int .i64 (pk i)])) (hpn : pn ≤ maxLen) :
  Calls Tryz.prog 40 #[.pointer (some ⟨g, 0, none⟩), suA S, .int .i64 t, .slice pA pn pc, .pointer (some ⟨R, 0, none⟩)] w (SecP R rs rn ra rr (seenN c.fl t) w) := by
 have h24 : c.fl.length ≤ 24 := by have := hok.ow.n; have := hok.len; omega
 obtain ⟨V, hV⟩ : ∃ V, w.alloc (suO S) = V := ⟨_, rfl⟩
 have hbV : Below w.heap.size w V := by rw [← hV]; exact (Below.refl _ _).alloc (Nat.le_refl _) _
 have hzV : V.heap.size = w.heap.size + 1 := by rw [← hV, size_al]
 have hgB : SuAt S w.heap.size V := by rw [← hV]; exact heap_alloc_new _ _
 have hMV : CeM F g S c y V := h.below hbV
 have HB := Lib.hid (fun (W : World) (hb : Below V.heap.size V W) => (show SuAt S w.heap.size W from (hb.block w.heap.size (by omega)).trans hgB))
 have HBV := Lib.hid hbV
 have HOwn := Lib.hid (fun (W : World) (hb : Below V.heap.size V W) => Owners_any (hMV.below hb) hok)
 have HFl := Lib.hid (fun (W : World) (hb : Below V.heap.size V W) => Flights_any (hMV.below hb) hok)
 have HTa := Lib.hid (fun (W : World) (hb : Below V.heap.size V W) => (hT.below hbV).below hb)
 have HR := Lib.hid (fun (W : World) (hb : Below V.heap.size V W) => (hb.block R (Nat.lt_of_lt_of_le (Array.getElem?_eq_some_iff.1 hR).1 hbV.size)).trans ((hbV.block R (Array.getElem?_eq_some_iff.1 hR).1).trans hR))
 have HPk := Lib.hid (fun (W : World) (hb : Below V.heap.size V W) => (hP.below hbV).more hbV.size |>.below hb)
 have HOk := Lib.hid hok
 have HP := Lib.hid hp
 have HS := Lib.hid hS
 have HRl := Lib.hid (Array.getElem?_eq_some_iff.1 hR).1
 have hlen := hok.len
 have HLen := Lib.hid hlen
 unfold suO at hV
 unfold suA setupA OwCp at *
 clear h hok hp hS hgB hbV hMV hT hR hP hlen
 obtain ⟨Bs, hBs⟩ : ∃ B, w.heap.size = B := ⟨_, rfl⟩
 have HBs := Lib.hid hBs
 clear hBs hzV
 go_enter Tryz.func40, Tryz.ntmps40
 go_upto_region 4 with (first
  | (go_at_call 70; go_loud (refine (HOwn.out _ (Below.refl _ _)).mono ?_; rintro e w1 ⟨oA, oc, rfl, ho1, hb1⟩; have HO1 := Lib.hid ho1; have HB1 := Lib.hid hb1; clear ho1 hb1))
  | (go_at_call 14; go_loud (refine (HFl.out _ HB1.out).mono ?_; rintro e w2 ⟨⟨vA, vn, vc⟩, rfl, ⟨xs, ts, hX⟩, hb2⟩; have HX := Lib.hid hX; have HB2 := Lib.hid hb2; clear hX hb2)))
 have hv24 : vn ≤ 24 := by rw [show vn = c.fl.length from HX.out.n]; exact h24
 have HVn : Hid (vn = c.fl.length) := Lib.hid HX.out.n
 have HB12 := Lib.hid (HB1.out.trans (HB2.out.mono HB1.out.size))
 go_loopw [26, 11] (fun s a wr => ∃ (j : Nat) (A : Option Addr) (n cc : Nat) (L : List Ac), j ≤ vn ∧ s = .int .i64 (j : Int) ∧ a = .slice A n cc ∧ Hid (wr.ownsRow w2.heap.size 139 9 (.slice A n cc) n (rowsV acV L) ∧ L.length = n) ∧ Hid (AcL S c.fl t j L) ∧ Hid (Below w2.heap.size w2 wr)) (fun s _ _ => vn - (intOf s).toNat)
 case atStart => exact ⟨0, none, 0, 0, [], by omega, rfl, rfl, Lib.hid ⟨World.ownsRow_nil _ _ _ _, rfl⟩, Lib.hid (AcL.nil _ _ _), Lib.hid (Below.refl _ _)⟩
 case round =>
  obtain ⟨j, A, n, cc, L, hj, rfl, rfl, HO, HL, HBj⟩ := hrel
  obtain ⟨wo, hwo⟩ : ∃ wo : World, wo = wr := ⟨_, rfl⟩
  subst hwo
  have hzr := HBj.out.size
  have HBV2 := Lib.hid (HB12.out.trans (HBj.out.mono HB12.out.size))
  by_cases hjt : j < vn
  ·have l0 : (0 : Int) ≤ (j : Int) := by omega
   have l1 : (j : Int) < (vn : Int) := by omega
   have hjw : IntKind.i64.wrap ((j : Int) + 1) = (j : Int) + 1 := IntWalk.i64_in _ (by omega)
   have hjc : j < c.fl.length := by rw [← HVn.out]; exact hjt
   have HXj := Lib.hid (HX.out.kept (.of_below HBj.out))
   obtain ⟨b, hA, hb, hcell⟩ := HXj.out.cells hjc
   have hA : vA = some ⟨b, 0, none⟩ := hA
   subst hA
   have hfm : c.fl[j]! ∈ c.fl := by rw [getElem!_pos c.fl j hjc]; exact List.getElem_mem hjc
   have HFok := Lib.hid (HOk.out.fl _ hfm)
   have HNj := Lib.hid hjc
   have HF := Lib.hid (HXj.out.fl j hjc)
   have hown : ∃ o ∈ c.ow, pOw (c.fl[j]!).call o = true := by
    have hjo : j < c.ow.length := by rw [← HLen.out]; exact hjc
    refine ⟨c.ow[j], List.getElem_mem hjo, ?_⟩
    have h2 := congrArg (fun l => l[j]?) HOk.out.calls
    simp only [List.getElem?_map] at h2
    rw [List.getElem?_eq_getElem hjc, List.getElem?_eq_getElem hjo] at h2
    simp only [Option.map_some, Option.some.injEq] at h2
    have h3 := name_ne (HOk.out.ow.e j hjo).owner
    rw [getElem!_pos c.ow j hjo] at h3
    unfold pOw
    rw [getElem!_pos c.fl j hjc, h2]
    have h4 : (c.ow[j].owner.toList.isEmpty) = false := by
     rw [ByteArray.toList_eq]; exact not_empty h3
    simp [h4]
   have HOwned := Lib.hid hown
   have HCall := Lib.hid HF.out.call
   obtain ⟨x, hx⟩ : ∃ x, xs[j]! = x := ⟨_, rfl⟩
   obtain ⟨tl, htl⟩ : ∃ tl, ts[j]! = tl := ⟨_, rfl⟩
   rw [hx] at hcell HCall
   rw [hx, htl] at HF
   have q0 := hcell 0 (by decide)
   have q1 := hcell 1 (by decide)
   have q2 := hcell 2 (by decide)
   have q3 := hcell 3 (by decide)
   have q4 := hcell 4 (by decide)
   have q5 := hcell 5 (by decide)
   have q6 := hcell 6 (by decide)
   have q7 := hcell 7 (by decide)
   simp only [fmV, List.getElem?_cons_succ, List.getElem?_cons_zero, Nat.add_zero] at q0 q1 q2 q3 q4 q5 q6 q7
   clear hcell hfm hx htl hjc hb hown
   obtain ⟨fcall, fwake, fslot, flands, fla, fln, flc, fna, fnn, fnc, fland, fnland⟩ := x
   dsimp only at q0 q1 q2 q3 q4 q5 q6 q7 HCall
   go_upto_region 6 with (fail)
   obtain ⟨w4, hw4⟩ : ∃ W, wo.alloc (.cells #[.string fcall, .int .i64 fwake, .int .i64 fslot, .bool flands, .slice fla fln flc, .slice fna fnn fnc, .int .i64 fland, .int .i64 fnland] 46) = W := ⟨_, rfl⟩
   rw [hw4]
   have hbw4 : Below wo.heap.size wo w4 := by rw [← hw4]; exact (Below.refl _ _).alloc (Nat.le_refl _) _
   have hrw4 : w4.heap[wo.heap.size]? = some (.cells #[.string fcall, .int .i64 fwake, .int .i64 fslot, .bool flands, .slice fla fln flc, .slice fna fnn fnc, .int .i64 fland, .int .i64 fnland] 46 (0, 0)) := by rw [← hw4]; exact heap_alloc_new _ _
   have hzw4 : w4.heap.size = wo.heap.size + 1 := by rw [← hw4, size_al]
   clear hw4
   clear q0 q1 q2 q3 q4 q5 q6 q7
   have HB4 := Lib.hid (HBV2.out.trans (hbw4.mono HBV2.out.size))
   have HBo4 := Lib.hid hbw4
   have HR4 := Lib.hid (fun (W : World) (hb : Below w4.heap.size w4 W) => (show W.heap[wo.heap.size]? = some (.cells #[.string fcall, .int .i64 fwake, .int .i64 fslot, .bool flands, .slice fla fln flc, .slice fna fnn fnc, .int .i64 fland, .int .i64 fnland] 46 (0, 0)) from (hb.block _ (by omega)).trans hrw4))
   have HF4 := Lib.hid (fun (W : World) (hb : Below w4.heap.size w4 W) => (HF.out.kept (.of_below hbw4)).kept (.of_below hb))
   have HCon := Lib.hid (owned_has (call := fcall) (B := wo.heap.size) (w := w4) (A := oA) (n := c.ow.length) (c := oc) (l := c.ow) ⟨rfl, by
     have h1 := Sl_rows owV_len HO1.out.1 rfl (by decide)
     exact ((h1.below (HB2.out)).more HB2.out.size |>.below HBj.out).more hzr |>.below hbw4 |>.more hbw4.size⟩ (by have := HOk.out.ow.n; exact this) (cell_of_row w4 _ 0 _ _ _ hrw4) (by rw [HCall.out]; exact HOwned.out))
   clear hrw4 hbw4
   go_upto_region 8 with (go_at_call 71; go_loud (refine HCon.out.mono ?_; rintro e w5 ⟨rfl, hb5⟩; have HB5 := Lib.hid hb5; clear hb5))
   have HR5 := Lib.hid (HR4.out w5 HB5.out)
   have HPl := Lib.hid (Places24 (HF4.out w5 HB5.out) HFok.out t)
   unfold fmA PlcP at HPl
   dsimp only at HPl
   obtain ⟨ns, hns⟩ : ∃ ns, placesP c.fl[j]! t = ns := ⟨_, rfl⟩
   have HNs := Lib.hid hns
   rw [hns] at HPl
   have hns2 : ns.length ≤ 2 := by rw [← hns]; exact places_len _ _
   have HNd : Hid (∀ q ∈ ns, NdOk q) := Lib.hid (fun q hq => by rw [← hns] at hq; exact (places_in HFok.out hq).1)
   clear hns
   obtain ⟨m, hm⟩ : ∃ m, ns.length = m := ⟨_, rfl⟩
   have HM := Lib.hid hm
   rw [hm] at HPl hns2
   clear hm
   go_upto_region 9 with (first
    | (first | (refine wpList_load_row rfl 46 _ rfl wo.heap.size rfl 46 _ (0, 0) _ HR5.out Tryz.underlying46 rfl (by kernel_rfl) ?_) | (refine wpList_load_row_w 46 _ rfl wo.heap.size rfl rfl 46 _ (0, 0) _ HR5.out Tryz.underlying46 rfl (by kernel_rfl) ?_))
    | (go_at_call 16; go_loud (refine HPl.out.mono ?_; rintro e w6 ⟨lA, lc, rfl, ho6, hb6⟩; have HO6 := Lib.hid ho6; have HB6 := Lib.hid (HB5.out.trans (hb6.mono HB5.out.size)); clear ho6 hb6)))
   have HBw6 := Lib.hid (HBo4.out.trans (HB6.out.mono HBo4.out.size))
   have HB26 := Lib.hid (HBj.out.trans (HBw6.out.mono hzr))
   by_cases hm0 : m = 0
   ·subst hm0
    have hpl0 : (placesP c.fl[j]! t).length = 0 := by rw [HNs.out]; exact HM.out
    have HL' := Lib.hid (HL.out.skip HNj.out hpl0)
    have HO' := Lib.hid (And.intro (own_below HO.out.1 HBw6.out (Nat.le_refl _)) HO.out.2)
    clear hpl0
    go_wp2_with fail
    go_roundw
    case rel => exact ⟨j + 1, A, n, cc, L, by omega, by go_num, rfl, HO', HL', HB26⟩
    case measure => simp [intOf]; omega
   ·have em0 : ((m : Int) == 0) = false := by simp; omega
    have HPk6 := Lib.hid (HPk.out w6 ((HBV2.out.trans (HBw6.out.mono HBV2.out.size))))
    have hk7 : IntKind.i64.wrap (7 * t) = 7 * t := IntWalk.i64_in _ (by omega)
    have hk31 : IntKind.i64.wrap (31 * (j : Int)) = 31 * (j : Int) := IntWalk.i64_in _ (by omega)
    have hk38 : IntKind.i64.wrap (7 * t + 31 * (j : Int)) = 7 * t + 31 * (j : Int) := IntWalk.i64_in _ (by omega)
    go_upto_region 11 with (fail)
    have HB26 := Lib.hid HB26.out
    by_cases hpn0 : 0 < pn
    ·obtain ⟨pb, poff, rfl, hpb, hpr⟩ := HPk6.out hpn0
     obtain ⟨r, hr⟩ : ∃ r : Nat, (t + (j : Int)) % (pn : Int) = (r : Int) := ⟨((t + (j : Int)) % (pn : Int)).toNat, by have := Int.emod_nonneg (t + (j : Int)) (show (pn : Int) ≠ 0 by omega); omega⟩
     have hrn : r < pn := by have := Int.emod_lt_of_pos (t + (j : Int)) (show (0 : Int) < (pn : Int) by omega); omega
     have r0 : (0 : Int) ≤ (r : Int) := by omega
     have r1 : (r : Int) < (pn : Int) := by omega
     have c0 : w6.cell? ⟨pb, poff + r, none⟩ = some (.int .i64 (pk r)) := by have := hpr r hrn 0 _ rfl; rwa [Nat.mul_one, Nat.add_zero] at this
     have p1 : (0 : Int) < (pn : Int) := by omega
     have p2 : ¬ ((pn : Int) = 0) := by omega
     have p3 : ((pn : Int) == 0) = false := by simp; omega
     have p4 : ¬ ((pn : Int) = -1) := by omega
     have p5 : IntKind.i64.wrap (t + (j : Int)) = t + (j : Int) := IntWalk.i64_in _ (by omega)
     obtain ⟨kk, hkk⟩ : ∃ kk, 7 * t + 31 * (j : Int) + bits .and .i64 (pk r) 65535 = kk := ⟨_, rfl⟩
     have hmask := mask_low (pk r)
     have p6 : IntKind.i64.wrap (7 * t + 31 * (j : Int) + bits .and .i64 (pk r) 65535) = kk := by rw [IntWalk.i64_in _ (by omega)]; exact hkk
     have hkb : 0 ≤ kk ∧ kk < 1000000 := by omega
     clear hmask hkk
     go_upto_region 13 with (fail)
     clear c0 p1 p2 p3 p4 p5 p6 r0 r1 hr hrn hpr hpb
     obtain ⟨r2, hr2⟩ : ∃ r : Nat, kk % (m : Int) = (r : Int) := ⟨(kk % (m : Int)).toNat, by have := Int.emod_nonneg kk (show (m : Int) ≠ 0 by omega); omega⟩
     have hrm : r2 < m := by have := Int.emod_lt_of_pos kk (show (0 : Int) < (m : Int) by omega); omega
     have s0 : (0 : Int) ≤ (r2 : Int) := by omega
     have s1 : (r2 : Int) < (m : Int) := by omega
     have s2 : ¬ ((m : Int) = 0) := by omega
     have s4 : ¬ ((m : Int) = -1) := by omega
     have s5 : (0 : Int) < (m : Int) := by omega
     have hnm : ns[r2]! ∈ ns := by rw [getElem!_pos ns r2 (by rw [HM.out]; exact hrm)]; exact List.getElem_mem _
     have HNd2 := Lib.hid (HNd.out _ hnm)
     have HNm := Lib.hid (show ns[r2]! ∈ placesP c.fl[j]! t by rw [HNs.out]; exact hnm)
     have hrow : Sl w6 w6.heap.size 6 lA m (fun i => ndV ns[i]!) := Sl_rows ndV_len HO6.out HM.out (by decide)
     obtain ⟨lb, loff, hlA, hlb, hlr⟩ := hrow (by omega)
     subst hlA
     have rr : ∀ q u, (ndV ns[r2]!)[q]? = some u → w6.cell? ⟨lb, loff + r2 * 6 + q, none⟩ = some u := hlr r2 hrm
     obtain ⟨nd, hnd⟩ : ∃ nd, ns[r2]! = nd := ⟨_, rfl⟩
     rw [hnd] at rr HNd2 HNm
     have k0 := rr 0 _ rfl
     have k1 := rr 1 _ rfl
     have k2 := rr 2 _ rfl
     have k3 := rr 3 _ rfl
     have k4 := rr 4 _ rfl
     have k5 := rr 5 _ rfl
     simp only [Nat.add_zero] at k0
     have HPut := Lib.hid (put_any nd HNd2.out kk (by omega) (by omega) w6 (HTa.out w6 (HBV2.out.trans (HBw6.out.mono HBV2.out.size))))
     unfold ndA PutP at HPut
     have HOw := Lib.hid (own_below HO.out.1 HBw6.out (Nat.le_refl _))
     clear rr hlr hnm hnd hlb hrow
     obtain ⟨i139, E0, E1, E2, E3⟩ := info_parts Ac_info
     have hn100 : n + 1 ≤ 100000000 := by have := HL.out.n; rw [HO.out.2] at this; have h2 := seenN_le (c.fl.take j) t; rw [List.length_take] at h2; omega
     go_wp2_with (first
      | (go_at_call 73; go_loud (refine HPut.out.mono ?_; rintro e w7 ⟨a, rfl, han, hak, hb7⟩; have HA := Lib.hid (And.intro han hak); have HB7 := Lib.hid (HB26.out.trans (hb7.mono HB26.out.size)); have HO7 := Lib.hid (own_below HOw.out hb7 (Nat.le_refl _)); clear han hak hb7; unfold acA))
      | (at_builtin; go_loud (refine wpList_append_oneN _ w7.heap.size rfl #[.int .i64 a.n.t, .int .i64 a.n.x, .int .i64 a.n.y, .int .i64 a.n.h, .int .i64 a.n.r, .int .i64 a.n.b, .int .i64 a.x, .int .i64 a.y, .int .i64 a.h] rfl (.tmp 75) (.tmp 85) 133 rfl w2.heap.size 139 i139 _ 9 72 Tryz.underlying133 E0 E1 E2 E3 rfl (by decide) (.slice A n cc) n _ rfl HO7.out rfl rfl (by simp [Value.oneCell']) (by omega) (by decide) (HB7.out.size) ?_; intro g8 cap8 w8 hv8 hg8 hat8 hlt8; have HO8 := Lib.hid hv8; have HB8 := Lib.hid (below_app HB7.out HB7.out.size HO7.out (Nat.le_refl _) hg8); clear hv8 hg8 hat8 hlt8)))
     have HL' := Lib.hid (HL.out.snoc HOk.out HP.out HNj.out HA.out.2 (by rw [HA.out.1]; exact HNm.out))
     have HO' : Hid (w8.ownsRow w2.heap.size 139 9 (.slice (some ⟨g8, 0, none⟩) (n + 1) cap8) (n + 1) (rowsV acV (L ++ [a])) ∧ (L ++ [a]).length = n + 1) := Lib.hid ⟨by rw [rowsV_snoc acV L a]; exact HO8.out, by rw [List.length_append, HO.out.2]; rfl⟩
     go_roundw
     case rel => exact ⟨j + 1, _, n + 1, cap8, _, by omega, by go_num, rfl, HO', HL', HB8⟩
     case measure => simp [intOf]; omega
    ·obtain rfl : pn = 0 := by omega
     go_upto_region 13 with (fail)
     obtain ⟨kk, hkk⟩ : ∃ kk, 7 * t + 31 * (j : Int) = kk := ⟨_, rfl⟩
     have hkb : 0 ≤ kk ∧ kk < 1000000 := by omega
     rw [hkk]
     clear hkk hk38
     obtain ⟨r2, hr2⟩ : ∃ r : Nat, kk % (m : Int) = (r : Int) := ⟨(kk % (m : Int)).toNat, by have := Int.emod_nonneg kk (show (m : Int) ≠ 0 by omega); omega⟩
     have hrm : r2 < m := by have := Int.emod_lt_of_pos kk (show (0 : Int) < (m : Int) by omega); omega
     have s0 : (0 : Int) ≤ (r2 : Int) := by omega
     have s1 : (r2 : Int) < (m : Int) := by omega
     have s2 : ¬ ((m : Int) = 0) := by omega
     have s4 : ¬ ((m : Int) = -1) := by omega
     have s5 : (0 : Int) < (m : Int) := by omega
     have hnm : ns[r2]! ∈ ns := by rw [getElem!_pos ns r2 (by rw [HM.out]; exact hrm)]; exact List.getElem_mem _
     have HNd2 := Lib.hid (HNd.out _ hnm)
     have HNm := Lib.hid (show ns[r2]! ∈ placesP c.fl[j]! t by rw [HNs.out]; exact hnm)
     have hrow : Sl w6 w6.heap.size 6 lA m (fun i => ndV ns[i]!) := Sl_rows ndV_len HO6.out HM.out (by decide)
     obtain ⟨lb, loff, hlA, hlb, hlr⟩ := hrow (by omega)
     subst hlA
     have rr : ∀ q u, (ndV ns[r2]!)[q]? = some u → w6.cell? ⟨lb, loff + r2 * 6 + q, none⟩ = some u := hlr r2 hrm
     obtain ⟨nd, hnd⟩ : ∃ nd, ns[r2]! = nd := ⟨_, rfl⟩
     rw [hnd] at rr HNd2 HNm
     have k0 := rr 0 _ rfl
     have k1 := rr 1 _ rfl
     have k2 := rr 2 _ rfl
     have k3 := rr 3 _ rfl
     have k4 := rr 4 _ rfl
     have k5 := rr 5 _ rfl
     simp only [Nat.add_zero] at k0
     have HPut := Lib.hid (put_any nd HNd2.out kk (by omega) (by omega) w6 (HTa.out w6 (HBV2.out.trans (HBw6.out.mono HBV2.out.size))))
     unfold ndA PutP at HPut
     have HOw := Lib.hid (own_below HO.out.1 HBw6.out (Nat.le_refl _))
     clear rr hlr hnm hnd hlb hrow
     obtain ⟨i139, E0, E1, E2, E3⟩ := info_parts Ac_info
     have hn100 : n + 1 ≤ 100000000 := by have := HL.out.n; rw [HO.out.2] at this; have h2 := seenN_le (c.fl.take j) t; rw [List.length_take] at h2; omega
     go_wp2_with (first
      | (go_at_call 73; go_loud (refine HPut.out.mono ?_; rintro e w7 ⟨a, rfl, han, hak, hb7⟩; have HA := Lib.hid (And.intro han hak); have HB7 := Lib.hid (HB26.out.trans (hb7.mono HB26.out.size)); have HO7 := Lib.hid (own_below HOw.out hb7 (Nat.le_refl _)); clear han hak hb7; unfold acA))
      | (at_builtin; go_loud (refine wpList_append_oneN _ w7.heap.size rfl #[.int .i64 a.n.t, .int .i64 a.n.x, .int .i64 a.n.y, .int .i64 a.n.h, .int .i64 a.n.r, .int .i64 a.n.b, .int .i64 a.x, .int .i64 a.y, .int .i64 a.h] rfl (.tmp 75) (.tmp 85) 133 rfl w2.heap.size 139 i139 _ 9 72 Tryz.underlying133 E0 E1 E2 E3 rfl (by decide) (.slice A n cc) n _ rfl HO7.out rfl rfl (by simp [Value.oneCell']) (by omega) (by decide) (HB7.out.size) ?_; intro g8 cap8 w8 hv8 hg8 hat8 hlt8; have HO8 := Lib.hid hv8; have HB8 := Lib.hid (below_app HB7.out HB7.out.size HO7.out (Nat.le_refl _) hg8); clear hv8 hg8 hat8 hlt8)))
     have HL' := Lib.hid (HL.out.snoc HOk.out HP.out HNj.out HA.out.2 (by rw [HA.out.1]; exact HNm.out))
     have HO' : Hid (w8.ownsRow w2.heap.size 139 9 (.slice (some ⟨g8, 0, none⟩) (n + 1) cap8) (n + 1) (rowsV acV (L ++ [a])) ∧ (L ++ [a]).length = n + 1) := Lib.hid ⟨by rw [rowsV_snoc acV L a]; exact HO8.out, by rw [List.length_append, HO.out.2]; rfl⟩
     go_roundw
     case rel => exact ⟨j + 1, _, n + 1, cap8, _, by omega, by go_num, rfl, HO', HL', HB8⟩
     case measure => simp [intOf]; omega
  ·obtain rfl : vn = j := by omega
   have hcap := own_cap HO.out.1
   have hnil := own_nil HO.out.1
   have HRow := Lib.hid (Sl_rows acV_len HO.out.1 HO.out.2 (by decide))
   have hn24 : n ≤ 24 := by have := HL.out.n; rw [HO.out.2] at this; have h2 := seenN_le (c.fl.take vn) t; rw [List.length_take] at h2; omega
   have HNn : Hid (n = seenN c.fl t) := Lib.hid (by have := HL.out.n; rw [HO.out.2, HVn.out, List.take_length] at this; exact this)
   go_upto_region 16 with (fail)
   go_loopw [90] (fun s wr => ∃ i : Nat, i ≤ n ∧ s = .int .i64 (i : Int) ∧ Hid (Below wo.heap.size wo wr)) (fun s _ => n - (intOf s).toNat)
   case atStart => exact ⟨0, by omega, rfl, Lib.hid (Below.refl _ _)⟩
   case round =>
    obtain ⟨i, hi, rfl, HBi⟩ := hrel
    obtain ⟨wi, hwi⟩ : ∃ wi : World, wi = wr := ⟨_, rfl⟩
    subst hwi
    have hzi := HBi.out.size
    by_cases hit : i < n
    ·have i0 : (0 : Int) ≤ (i : Int) := by omega
     have i1 : (i : Int) < (n : Int) := by omega
     have hiw : IntKind.i64.wrap ((i : Int) + 1) = (i : Int) + 1 := IntWalk.i64_in _ (by omega)
     have hiL : i < L.length := by rw [HO.out.2]; exact hit
     have hRi := HRow.out.below HBi.out
     obtain ⟨ab, aoff, hA1, hab, hra⟩ := hRi (by omega)
     subst hA1
     have ra : ∀ q u, (acV L[i]!)[q]? = some u → wi.cell? ⟨ab, aoff + i * 9 + q, none⟩ = some u := hra i hit
     have HAp := Lib.hid (fun q (hq : q < i) => HL.out.apart HS.out hq hiL)
     have HAk := Lib.hid (HL.out.ok L[i]! (by rw [getElem!_pos L i hiL]; exact List.getElem_mem _))
     obtain ⟨a, ha⟩ : ∃ a, L[i]! = a := ⟨_, rfl⟩
     rw [ha] at ra HAp HAk
     have k0 := ra 0 _ rfl
     have k1 := ra 1 _ rfl
     have k2 := ra 2 _ rfl
     have k3 := ra 3 _ rfl
     have k4 := ra 4 _ rfl
     have k5 := ra 5 _ rfl
     have k6 := ra 6 _ rfl
     have k7 := ra 7 _ rfl
     have k8 := ra 8 _ rfl
     simp only [Nat.add_zero] at k0
     have HOut := Lib.hid (fun W => outside_any a HAk.out W)
     unfold acA at HOut
     clear ra hra hRi ha
     go_upto_region 18 with (fail)
     obtain ⟨w3, hw3⟩ : ∃ W, wi.alloc (.cells #[.int .i64 a.n.t, .int .i64 a.n.x, .int .i64 a.n.y, .int .i64 a.n.h, .int .i64 a.n.r, .int .i64 a.n.b, .int .i64 a.x, .int .i64 a.y, .int .i64 a.h] 139) = W := ⟨_, rfl⟩
     rw [hw3]
     have hbw3 : Below wi.heap.size wi w3 := by rw [← hw3]; exact (Below.refl _ _).alloc (Nat.le_refl _) _
     have hrw3 : w3.heap[wi.heap.size]? = some (.cells #[.int .i64 a.n.t, .int .i64 a.n.x, .int .i64 a.n.y, .int .i64 a.n.h, .int .i64 a.n.r, .int .i64 a.n.b, .int .i64 a.x, .int .i64 a.y, .int .i64 a.h] 139 (0, 0)) := by rw [← hw3]; exact heap_alloc_new _ _
     have hzw3 : w3.heap.size = wi.heap.size + 1 := by rw [← hw3, size_al]
     clear hw3
     clear k0 k1 k2 k3 k4 k5 k6 k7 k8
     have HB3 := Lib.hid (HBi.out.trans (hbw3.mono hzi))
     have HR3 := Lib.hid hrw3
     clear hbw3 hrw3
     go_upto_region 20 with (first
      | (first | (refine wpList_load_row rfl 139 _ rfl wi.heap.size rfl 139 _ (0, 0) _ HR3.out Tryz.underlying139 rfl (by kernel_rfl) ?_) | (refine wpList_load_row_w 139 _ rfl wi.heap.size rfl rfl 139 _ (0, 0) _ HR3.out Tryz.underlying139 rfl (by kernel_rfl) ?_))
      | (go_at_call 74; go_loud (refine (HOut.out w3).mono ?_; rintro e w4 ⟨rfl, hb4⟩; have HB4 := Lib.hid (HB3.out.trans (hb4.mono HB3.out.size)); have HR4 := Lib.hid ((hb4.block wi.heap.size (by omega)).trans HR3.out); clear hb4)))
     obtain ⟨A2, c2, hsl, hA2⟩ := takeAc (A := some ⟨ab, aoff, none⟩) (c := cc) n i (by omega) hcap.1 hcap.2 hnil
     have hz4 := HB4.out.size
     go_upto_region 21 with (fail)
     go_loopw [108] (fun s wr => ∃ q : Nat, q ≤ i ∧ s = .int .i64 (q : Int) ∧ Hid (Below w4.heap.size w4 wr)) (fun s _ => i - (intOf s).toNat)
     case atStart => exact ⟨0, by omega, rfl, Lib.hid (Below.refl _ _)⟩
     case round =>
      obtain ⟨q, hq, rfl, HBq⟩ := hrel
      obtain ⟨wq, hwq⟩ : ∃ wq : World, wq = wr := ⟨_, rfl⟩
      subst hwq
      have hzq := HBq.out.size
      have HBoq := Lib.hid (HB4.out.trans (HBq.out.mono hz4))
      by_cases hqt : q < i
      ·have q0 : (0 : Int) ≤ (q : Int) := by omega
       have q1 : (q : Int) < (i : Int) := by omega
       have hqw : IntKind.i64.wrap ((q : Int) + 1) = (q : Int) + 1 := IntWalk.i64_in _ (by omega)
       obtain rfl := hA2 (by omega)
       have hqL : q < L.length := by omega
       have hRq := HRow.out.below HBoq.out
       obtain ⟨ab', aoff', hA1, hab', hra⟩ := hRq (by omega)
       injection hA1 with hA1
       injection hA1 with e1 e2
       subst e1
       subst e2
       have ra : ∀ z u, (acV L[q]!)[z]? = some u → wq.cell? ⟨ab, aoff + q * 9 + z, none⟩ = some u := hra q (by omega)
       have HApq := Lib.hid (HAp.out q hqt)
       have HBk := Lib.hid (HL.out.ok L[q]! (by rw [getElem!_pos L q hqL]; exact List.getElem_mem _))
       obtain ⟨b1, hb1⟩ : ∃ a, L[q]! = a := ⟨_, rfl⟩
       rw [hb1] at ra HApq HBk
       have k0 := ra 0 _ rfl
       have k1 := ra 1 _ rfl
       have k2 := ra 2 _ rfl
       have k3 := ra 3 _ rfl
       have k4 := ra 4 _ rfl
       have k5 := ra 5 _ rfl
       have k6 := ra 6 _ rfl
       have k7 := ra 7 _ rfl
       have k8 := ra 8 _ rfl
       simp only [Nat.add_zero] at k0
       clear ra hra hRq hb1
       go_upto_region 23 with (fail)
       obtain ⟨w5, hw5⟩ : ∃ W, wq.alloc (.cells #[.int .i64 b1.n.t, .int .i64 b1.n.x, .int .i64 b1.n.y, .int .i64 b1.n.h, .int .i64 b1.n.r, .int .i64 b1.n.b, .int .i64 b1.x, .int .i64 b1.y, .int .i64 b1.h] 139) = W := ⟨_, rfl⟩
       rw [hw5]
       have hbw5 : Below wq.heap.size wq w5 := by rw [← hw5]; exact (Below.refl _ _).alloc (Nat.le_refl _) _
       have hrw5 : w5.heap[wq.heap.size]? = some (.cells #[.int .i64 b1.n.t, .int .i64 b1.n.x, .int .i64 b1.n.y, .int .i64 b1.n.h, .int .i64 b1.n.r, .int .i64 b1.n.b, .int .i64 b1.x, .int .i64 b1.y, .int .i64 b1.h] 139 (0, 0)) := by rw [← hw5]; exact heap_alloc_new _ _
       have hzw5 : w5.heap.size = wq.heap.size + 1 := by rw [← hw5, size_al]
       clear hw5
       clear k0 k1 k2 k3 k4 k5 k6 k7 k8
       have HB5 := Lib.hid (HBq.out.trans (hbw5.mono hzq))
       have hra5 : w5.heap[wi.heap.size]? = some (.cells #[.int .i64 a.n.t, .int .i64 a.n.x, .int .i64 a.n.y, .int .i64 a.n.h, .int .i64 a.n.r, .int .i64 a.n.b, .int .i64 a.x, .int .i64 a.y, .int .i64 a.h] 139 (0, 0)) := (HB5.out.block _ (by have := (Array.getElem?_eq_some_iff.1 HR4.out).1; exact this)).trans HR4.out
       have hBV5 : Below V.heap.size V w5 := HBV2.out.trans ((HBoq.out.trans (hbw5.mono HBoq.out.size)).mono HBV2.out.size)
       have hs5 := HB.out w5 hBV5
       have x6 := cell_regrown (show w5.cell? ⟨wi.heap.size, 6, none⟩ = some (.int .i64 a.x) from cell_of_row w5 _ 6 _ _ _ hra5)
       have x7 := cell_regrown (show w5.cell? ⟨wi.heap.size, 6 + 1, none⟩ = some (.int .i64 a.y) from cell_of_row w5 _ 7 _ _ _ hra5)
       have x8 := cell_regrown (show w5.cell? ⟨wi.heap.size, 8, none⟩ = some (.int .i64 a.h) from cell_of_row w5 _ 8 _ _ _ hra5)
       have y6 := cell_regrown (show w5.cell? ⟨wq.heap.size, 6, none⟩ = some (.int .i64 b1.x) from cell_of_row w5 _ 6 _ _ _ hrw5)
       have y7 := cell_regrown (show w5.cell? ⟨wq.heap.size, 6 + 1, none⟩ = some (.int .i64 b1.y) from cell_of_row w5 _ 7 _ _ _ hrw5)
       have y8 := cell_regrown (show w5.cell? ⟨wq.heap.size, 8, none⟩ = some (.int .i64 b1.h) from cell_of_row w5 _ 8 _ _ _ hrw5)
       have g0 := cell_regrown (show w5.cell? ⟨w.heap.size, 0, none⟩ = some (.int .i64 S.lat) from cell_of_row w5 _ 0 _ _ _ hs5)
       have g1 := cell_regrown (show w5.cell? ⟨w.heap.size, 1, none⟩ = some (.int .i64 S.vert) from cell_of_row w5 _ 1 _ _ _ hs5)
       have HSq := Lib.hid (fun W => Square_any a.x a.y b1.x b1.y W ⟨HAk.out.x0, HAk.out.x1⟩ ⟨HAk.out.y0, HAk.out.y1⟩ ⟨HBk.out.x0, HBk.out.x1⟩ ⟨HBk.out.y0, HBk.out.y1⟩)
       have hll : IntKind.i64.wrap (S.lat * S.lat) = S.lat * S.lat := IntWalk.i64_in _ (by
        have h1 := HS.out.lat
        have k1 : S.lat * S.lat ≤ 1000000 * S.lat := Int.mul_le_mul_of_nonneg_right h1.2 h1.1
        have k2 : 0 ≤ S.lat * S.lat := Int.mul_nonneg h1.1 h1.1
        omega)
       have hd1 : IntKind.i64.wrap (a.h - b1.h) = a.h - b1.h := IntWalk.i64_in _ (by have := HAk.out.h0; have := HAk.out.h1; have := HBk.out.h0; have := HBk.out.h1; omega)
       have hd2 : IntKind.i64.wrap (b1.h - a.h) = b1.h - a.h := IntWalk.i64_in _ (by have := HAk.out.h0; have := HAk.out.h1; have := HBk.out.h0; have := HBk.out.h1; omega)
       have hap := HApq.out
       generalize sqI a.x a.y b1.x b1.y = sq at HSq hap
       have HB5w := Lib.hid (HB5.out)
       clear hra5 hrw5 hs5 hBV5 hbw5
       cases t1 : decide (sq < S.lat * S.lat) with
       | false =>
        clear hap
        refine wp_region_quiet_below (by kernel_rfl) (by kernel_rfl) ?_
        repeat (go_big_quiet_step ((go_at_call 75; exact (HSq.out _).regrown_of)))
        refine wpQuiet_nil ?_
        intro wz hwz
        have hbz : Below w5.heap.size w5 wz := by obtain ⟨⟨dq, osq⟩, rfl⟩ := hwz; exact below_regrown w5 _ _
        clear hwz
        go_wp2_with fail
        go_roundw
        case rel => exact ⟨q + 1, by omega, by go_num, Lib.hid (HB5.out.trans (hbz.mono HB5.out.size))⟩
        case measure => simp [intOf]; omega
       | true =>
        have t2 : decide (max (a.h - b1.h) (b1.h - a.h) < S.vert) = false := by rw [t1] at hap; simpa using hap
        clear hap
        refine wp_region_quiet_below (by kernel_rfl) (by kernel_rfl) ?_
        repeat (go_big_quiet_step ((go_at_call 75; exact (HSq.out _).regrown_of)))
        refine wpQuiet_nil ?_
        intro wz hwz
        have hbz : Below w5.heap.size w5 wz := by obtain ⟨⟨dq, osq⟩, rfl⟩ := hwz; exact below_regrown w5 _ _
        clear hwz
        go_wp2_with fail
        go_roundw
        case rel => exact ⟨q + 1, by omega, by go_num, Lib.hid (HB5.out.trans (hbz.mono HB5.out.size))⟩
        case measure => simp [intOf]; omega
      ·obtain rfl : i = q := by omega
       go_wp2_with fail
       go_roundw
       case rel => exact ⟨i + 1, by omega, by go_num, HBoq⟩
       case measure => simp [intOf]; omega
    ·obtain rfl : n = i := by omega
     have HBVi := Lib.hid (HBV2.out.trans (HBi.out.mono HBV2.out.size))
     have hr := HR.out wi HBVi.out
     have c1 : wi.cell? ⟨R, 1, none⟩ = some (.int .i64 rn) := cell_of_row wi _ 1 _ _ _ hr
     have f1 : wi.frozen? ⟨R, 1, none⟩ = false := frozen_of_row wi _ 1 _ _ hr
     clear hr
     go_wp2_with fail
     go_end0
     have hbw := HBV.out.trans (HBVi.out.mono HBV.out.size)
     refine ⟨rfl, ⟨hbw.os, hbw.tape, hbw.output, by show w.heap.size ≤ (wi.setCell _ _).heap.size; simp [World.setCell]; exact hbw.size, fun k hk hF => ?_⟩, ?_⟩
     ·rw [Below.heap_setCell _ _ _ _ hF]; exact hbw.block k hk
     ·rw [← HNn.out]
      exact heap_setCell_same wi R 1 _ 32 _ (HR.out wi HBVi.out)
end Go.Proofs.YtaebebpldkciiaaGreatDoor
