/- Contracts and plain words, part 17: texts U14, U16. -/
import Derived.Test.YtaebebpldkciiaaGreatDoorQG15
import Derived.Test.YtaebebpldkciiaaGreatDoorQG16
import Derived.Test.YtaebebpldkciiaaGreatDoorQG10
namespace Go.Proofs.YtaebebpldkciiaaGreatDoor
open Go.RowKit
set_option maxRecDepth 100000 in
set_option maxHeartbeats 32000000 in
theorem clear_any {F : Nat → Prop} {g : Nat} {S : Su} {c : Ce} {y : Lay} {w : World} (h : CeM F g S c y w) (hok : CeOk c) (hS : SuOk S) (x : Inp) (A : Option Addr) (n cA : Nat) (hT : TuA A n x.tube w) (hn : n ≤ maxLen) :
  Calls Tryz.prog 66 #[.pointer (some ⟨g, 0, none⟩), inpV x A n cA] w (MethP F g S w (if clearE S c x = 0 then (setF c x (clearF S c x), 0) else (c, clearE S c x))) := by
 obtain ⟨V, hV⟩ : ∃ V, w.alloc (inpO x A n cA) = V := ⟨_, rfl⟩
 have hbV : Below w.heap.size w V := by rw [← hV]; exact (Below.refl _ _).alloc (Nat.le_refl _) _
 have hzV : V.heap.size = w.heap.size + 1 := by rw [← hV, size_al]
 have hgB : V.heap[w.heap.size]? = some (inpO x A n cA) := by rw [← hV]; exact heap_alloc_new _ _
 have hMV := h.below hbV
 have HV := Lib.hid hV
 have HBV := Lib.hid hbV
 have HZV := Lib.hid hzV
 have HFb0 := Lib.hid h.bd
 have HBx := Lib.hid (fun (W : World) (hb : Below V.heap.size V W) => (show W.heap[w.heap.size]? = some (inpO x A n cA) from (hb.block _ (by omega)).trans hgB))
 have HM := Lib.hid (fun (W : World) (hb : Below V.heap.size V W) => hMV.below hb)
 have HTu := Lib.hid (fun (W : World) (hb : Below V.heap.size V W) => hT.below (hbV.trans (hb.mono hbV.size)))
 obtain ⟨R, hR⟩ : ∃ R, MethP F g S w (if clearE S c x = 0 then (setF c x (clearF S c x), 0) else (c, clearE S c x)) = R := ⟨_, rfl⟩
 have HNo : Hid (∀ (k : Int) (W : World) (e : Ending), k ≠ 0 → clearE S c x = k → Below V.heap.size V W → e = .returned (.int .i64 k) → R e W) := Lib.hid (fun k W e hk he hb hee => by
  rw [hee, ← hR, he, if_neg hk]
  exact MethP.same h (HBV.out.trans (hb.mono HBV.out.size)) k)
 have HYes : Hid (clearE S c x = 0 → MethP F g S w (setF c x (clearF S c x), 0) = R) := Lib.hid (fun he => by rw [← hR, he, if_pos rfl])
 rw [hR]
 have HOf := Lib.hid (fun (W : World) (hb : Below V.heap.size V W) => ofP c.ow x.call y.oh.A y.oh.n y.oh.c W (hMV.below hb).owa hok.ow)
 have HCe := Lib.hid (fun (W : World) (hb : Below V.heap.size V W) => (show W.cell? ⟨g, 20, none⟩ = some (.slice y.oh.A y.oh.n y.oh.c) ∧ W.cell? ⟨g, 19, none⟩ = some (.slice y.fh.A y.fh.n y.fh.c) from ⟨(hMV.below hb).cell 20, (hMV.below hb).cell 19⟩))
 obtain ⟨oA, hoA⟩ : ∃ oA, y.oh.A = oA := ⟨_, rfl⟩
 obtain ⟨on, hon⟩ : ∃ on, y.oh.n = on := ⟨_, rfl⟩
 obtain ⟨oc, hoc⟩ : ∃ oc, y.oh.c = oc := ⟨_, rfl⟩
 rw [hoA, hon, hoc] at HOf HCe
 unfold inpV
 unfold inpO at hgB hV HV HBx
 have c20 := (HCe.out V (Below.refl _ _)).1
 have x2 : V.cell? ⟨w.heap.size, 2, none⟩ = some (.string x.call) := cell_of_row _ _ 2 _ _ _ hgB
 clear hoA hon hoc hR
 by_cases h1 : isO c.ow x.call = false
 ·have HE : Hid (clearE S c x = 8) := Lib.hid (by unfold clearE; rw [if_pos h1])
  have HO := Lib.hid (fun W hb => (HOf.out W hb).1 h1)
  clear HOf h hok hMV hgB hbV hzV hT hn h1
  go_enter Tryz.func66, Tryz.ntmps66
  go_upto_region 1 with (fail)
  have r20 := cell_regrown c20
  have r2 := cell_regrown x2
  clear c20 x2
  refine wp_region_quiet_below (by kernel_rfl) (by kernel_rfl) ?_
  repeat (go_big_quiet_step ((go_at_call 111; exact (HO.out _ (below_regrown V _ _)).regrown_of)))
  refine wpQuiet_nil ?_
  intro wz hwz
  have hbz : Below V.heap.size V wz := by obtain ⟨⟨dq, osq⟩, rfl⟩ := hwz; exact below_regrown _ _ _
  clear hwz r20 r2
  go_wp2_with fail
  (try go_ret)
  exact HNo.out 8 _ _ (by decide) HE.out hbz rfl
 have h1' : isO c.ow x.call = true := by simpa using h1
 have HO := Lib.hid (fun W hb => (HOf.out W hb).2 h1')
 obtain ⟨p1, p2, p3⟩ := hMV.at_low hok x.call h1'
 obtain ⟨b, hA, hFb, hbl, hbc⟩ := hMV.fblk (by omega)
 have HFok := Lib.hid (flOf_mem hok h1').2.2
 have HFo : Hid (flOf c x = c.fl[lowO c.ow x.call]!) := Lib.hid rfl
 have HFind := Lib.hid (fun (W : World) (hb : Below V.heap.size V W) => find_any (hMV.below hb) hok x.call)
 unfold FindP at HFind
 have HFc := Lib.hid (fun (W : World) (hb : Below V.heap.size V W) (q : Nat) (hq : q < 8) => ((hMV.below hb).fcell hA (lowO c.ow x.call) p1 q hq).1)
 have HFz := Lib.hid (fun (W : World) (hb : Below V.heap.size V W) (q : Nat) (hq : q < 8) => ((hMV.below hb).fcell hA (lowO c.ow x.call) p1 q hq).2)
 have HFl := Lib.hid (fun (W : World) (hb : Below V.heap.size V W) => (hMV.below hb).fl _ p1)
 have HFN := Lib.hid (fun (W : World) (hb : Below V.heap.size V W) (A2 : Option Addr) (base co : Nat) (hbase : w.heap.size ≤ base) => clear_fin (w := w) (W4 := W) x (hMV.below hb) HFb0.out (HBV.out.trans (hb.mono HBV.out.size)) (lowO c.ow x.call) p1 rfl hA A2 base co hbase)
 rw [h1'] at HFind
 rw [hA, p3] at HCe
 have HEq : Hid (clearE S c x = if (c.ow[lowO c.ow x.call]!).owner ≠ x.by_ then 16
  else if 0 < (flOf c x).next.length then 11
  else if (flOf c x).legs.length = 6 then 9
  else if tuE x.tube ≠ 0 then tuE x.tube
  else if fstT x.tube ≤ x.time ∨ fstT x.tube ≤ fstT (flOf c x).legs[(flOf c x).legs.length - 1]! ∨ lstT (flOf c x).legs[(flOf c x).legs.length - 1]! < fstT x.tube then 12
  else if 3600 < lstT x.tube - fstT x.tube then 2
  else if insN (atN (flOf c x).legs[(flOf c x).legs.length - 1]! (fstT x.tube)) x.tube = false then 19
  else if clashP S c.fl x.call x.tube = true then 15
  else if (flOf c x).lands = true ∧ (flOf c x).slot < landP S c.fl x.call (flOf c x).wake x.tube then 18 else 0) := Lib.hid (by unfold clearE; rw [if_neg h1])
 have HNl : Hid ((clearF S c x).nland = if (flOf c x).lands = true then landP S c.fl x.call (flOf c x).wake x.tube else 0) := Lib.hid rfl
 obtain ⟨ow, how⟩ : ∃ ow, (c.ow[lowO c.ow x.call]!).owner = ow := ⟨_, rfl⟩
 rw [how] at HO HEq
 have HClash := Lib.hid (fun (W : World) (hb : Below V.heap.size V W) (hl : TuOk x.tube) (hA' : TuA A x.tube.length x.tube W) => clash_any (hMV.below hb) hok hS x.call A cA x.tube hA' hl)
 have HLand := Lib.hid (fun (W : World) (hb : Below V.heap.size V W) (wk : Int) (hw : 0 ≤ wk ∧ wk ≤ 3) (hl : TuOk x.tube) => landing_any (hMV.below hb) hok hS x.call wk hw A n cA x.tube (HTu.out W hb) hl)
 obtain ⟨p, hp⟩ : ∃ p, lowO c.ow x.call = p := ⟨_, rfl⟩
 rw [hp] at HFind HFc HFz HFl HFo HFN p1
 obtain ⟨xf, hxf⟩ : ∃ xf, y.fs[p]! = xf := ⟨_, rfl⟩
 rw [hxf] at HFc HFl
 obtain ⟨f, hf⟩ : ∃ f, flOf c x = f := ⟨_, rfl⟩
 rw [hf] at HFok HEq HFo HNl
 rw [← HFo.out] at HFl
 have hFV := HFl.out V (Below.refl _ _)
 obtain ⟨bl, lm, hd, la1, ln1, lm5, bl1, _, _, hts⟩ := hFV.lastLeg HFok.out
 have hblN : ∀ W, Below V.heap.size V W → W.cell? ⟨bl, lm, none⟩ = some (.slice hd.A hd.n hd.c) ∧ TuA hd.A hd.n f.legs[f.legs.length - 1]! W := fun W hb => by
  obtain ⟨bl', lm', hd', a1, a2, _, _, a3, a4, a5⟩ := (HFl.out W hb).lastLeg HFok.out
  rw [la1] at a1; cases a1
  have : lm' = lm := by omega
  subst this
  rw [hts] at a5; subst a5
  exact ⟨a3, a4⟩
 have hlgok : TuOk f.legs[f.legs.length - 1]! := HFok.out.legs _ (by have := HFok.out.n0; omega)
 have HLg := Lib.hid hblN
 have HLk := Lib.hid hlgok
 obtain ⟨leg, hleg⟩ : ∃ leg, f.legs[f.legs.length - 1]! = leg := ⟨_, rfl⟩
 rw [hleg] at HLg HLk HEq
 have HhN : Hid (0 < hd.n ∧ hd.n ≤ 64) := Lib.hid (by have e := (HLg.out V (Below.refl _ _)).2.1; have := HLk.out.n0; have := HLk.out.n1; omega)
 have HLs := Lib.hid (fun (W : World) (hb : Below V.heap.size V W) => last_any hd.A hd.n hd.c leg W (HLg.out W hb).2 HhN.out.1 HhN.out.2)
 have HLf := Lib.hid (fun (W : World) (hb : Below V.heap.size V W) => first_any hd.A hd.n hd.c leg W (HLg.out W hb).2 HhN.out.1)
 have HCk := Lib.hid (fun (W : World) (hb : Below V.heap.size V W) => TCheck_any A n cA x.tube W (HTu.out W hb) hn)
 have hnx : xf.nn = f.next.length := hFV.next.1
 have hlnf : xf.ln = f.legs.length := hFV.ln
 have hlds : xf.lands = f.lands := hFV.lands
 have hwke : xf.wake = f.wake := hFV.wake
 have hslt : xf.slot = f.slot := hFV.slot
 rw [← hnx, ← hlnf, ← hlds, ← hslt, ← hwke] at HEq
 rw [← hlds, ← hwke] at HNl
 have HWk : Hid (0 ≤ xf.wake ∧ xf.wake ≤ 3) := Lib.hid (by rw [hwke]; exact HFok.out.wk)
 obtain ⟨fcall, fwake, fslot, flands, la, ln, lc, na, nn, nc, fland, nland⟩ := xf
 dsimp only at la1 ln1 HEq HNl HWk
 subst la1 ln1
 obtain ⟨nf, hnf⟩ : ∃ nf, c.fl.length = nf := ⟨_, rfl⟩
 rw [hnf] at HCe p1 p2
 have l0 : (0 : Int) ≤ (p : Int) := by omega
 have l1 : (p : Int) < (nf : Int) := by omega
 have hlw : IntKind.i64.wrap ((lm : Int) + 1 - 1) = (lm : Int) := by rw [IntWalk.i64_in _ (by omega)]; omega
 have lm0 : (0 : Int) ≤ (lm : Int) := by omega
 have lm1 : (lm : Int) < ((lm + 1 : Nat) : Int) := by omega
 have HVf := Lib.hid (fun (W : World) (hb : Below V.heap.size V W) => (show (W.cell? ⟨b, p * 8 + 1, none⟩ = some (.int .i64 fwake) ∧ W.cell? ⟨b, p * 8 + 2, none⟩ = some (.int .i64 fslot) ∧ W.cell? ⟨b, p * 8 + 3, none⟩ = some (.bool flands)) ∧ W.cell? ⟨b, p * 8 + 4, none⟩ = some (.slice (some ⟨bl, 0, none⟩) (lm + 1) lc) ∧ W.cell? ⟨b, p * 8 + 5, none⟩ = some (.slice na nn nc) ∧ W.cell? ⟨b, p * 8 + 7, none⟩ = some (.int .i64 nland) from
  ⟨⟨HFc.out W hb 1 (by decide), HFc.out W hb 2 (by decide), HFc.out W hb 3 (by decide)⟩, HFc.out W hb 4 (by decide), HFc.out W hb 5 (by decide), HFc.out W hb 7 (by decide)⟩))
 have HXc := Lib.hid (fun (W : World) (hb : Below V.heap.size V W) => (show W.cell? ⟨w.heap.size, 1, none⟩ = some (.int .i64 x.time) ∧ W.cell? ⟨w.heap.size, 2, none⟩ = some (.string x.call) ∧ W.cell? ⟨w.heap.size, 3, none⟩ = some (.string x.by_) ∧ W.cell? ⟨w.heap.size, 5, none⟩ = some (.slice A n cA) from ⟨cell_of_row _ _ 1 _ _ _ (HBx.out W hb), cell_of_row _ _ 2 _ _ _ (HBx.out W hb), cell_of_row _ _ 3 _ _ _ (HBx.out W hb), cell_of_row _ _ 5 _ _ _ (HBx.out W hb)⟩))
 have HNn : Hid (n = x.tube.length) := Lib.hid hT.1.symm
 have HLL := Lib.hid hleg
 clear HOf h hok hS hMV hgB hbV hzV hT hn h1 h1' p2 p3 hbl hbc hFb hA hp hxf hf hts hblN hnx hlnf hlds hwke hslt hnf bl1 hFV hlgok hleg how
 go_enter Tryz.func66, Tryz.ntmps66
 go_upto_region 1 with (fail)
 have r20 := cell_regrown c20
 have r2 := cell_regrown x2
 clear c20 x2
 refine wp_region_quiet_below (by kernel_rfl) (by kernel_rfl) ?_
 repeat (go_big_quiet_step ((go_at_call 111; exact (HO.out _ (below_regrown V _ _)).regrown_of)))
 refine wpQuiet_nil ?_
 intro w1 hwz
 have hbz : Below V.heap.size V w1 := by obtain ⟨⟨dq, osq⟩, rfl⟩ := hwz; exact below_regrown _ _ _
 have HB1 := Lib.hid hbz
 obtain ⟨_, x2, _, _⟩ := HXc.out w1 hbz
 clear hwz hbz r20 r2
 go_upto_region 6 with ((go_at_call 107; go_loud (refine (HFind.out w1 HB1.out).mono ?_; rintro e w2 ⟨rfl, hb3⟩; have hb4 : Below V.heap.size V w2 := HB1.out.trans (hb3.mono HB1.out.size); have HB2 := Lib.hid hb4; obtain ⟨⟨d1, d2, d3⟩, d4, d5, d7⟩ := HVf.out w2 hb4; obtain ⟨x1, _, x3, x5⟩ := HXc.out w2 hb4; have c19 := (HCe.out w2 hb4).2; clear hb3 hb4)))
 by_cases q1 : ow ≠ x.by_
 ·have e1 : (ow.toList == x.by_.toList) = false := by rw [ba_beq]; exact decide_eq_false q1
  have e1n : (ow.toList != x.by_.toList) = true := by rw [bne, e1]; rfl
  rw [if_pos q1] at HEq
  clear q1
  go_wp2_with fail
  (try go_ret)
  exact HNo.out 16 _ _ (by decide) HEq.out HB2.out rfl
 have e1 : (ow.toList == x.by_.toList) = true := by rw [ba_beq]; exact decide_eq_true (Decidable.not_not.1 q1)
 have e1n : (ow.toList != x.by_.toList) = false := by rw [bne, e1]; rfl
 rw [if_neg q1] at HEq
 clear q1
 go_upto_region 8 with (fail)
 by_cases q2 : 0 < nn
 ·have e2 : decide ((0 : Int) < (nn : Int)) = true := decide_eq_true (by omega)
  have e2n : decide (0 < nn) = true := decide_eq_true q2
  rw [if_pos q2] at HEq
  clear q2
  go_wp2_with fail
  (try go_ret)
  exact HNo.out 11 _ _ (by decide) HEq.out HB2.out rfl
 have e2 : decide ((0 : Int) < (nn : Int)) = false := decide_eq_false (by omega)
 have e2n : decide (0 < nn) = false := decide_eq_false q2
 rw [if_neg q2] at HEq
 clear q2
 go_upto_region 10 with (fail)
 by_cases q3 : lm + 1 = 6
 ·have e3 : (((lm + 1 : Nat) : Int) == 6) = true := by rw [beq_iff_eq]; omega
  rw [if_pos q3] at HEq
  obtain rfl : lm = 5 := by omega
  clear q3
  go_wp2_with fail
  (try go_ret)
  exact HNo.out 9 _ _ (by decide) HEq.out HB2.out rfl
 have e3 : (((lm + 1 : Nat) : Int) == 6) = false := by rw [beq_eq_false_iff_ne]; omega
 have e3b : ((lm : Int) + 1 == 6) = false := by rw [beq_eq_false_iff_ne]; omega
 rw [if_neg q3] at HEq
 clear q3
 have HC2 := Lib.hid (HCk.out w2 HB2.out)
 obtain ⟨te, hte⟩ : ∃ te, tuE x.tube = te := ⟨_, rfl⟩
 rw [hte] at HEq HC2
 have HTe := Lib.hid hte
 clear hte
 go_upto_region 13 with ((go_at_call 47; go_loud (refine HC2.out.mono ?_; rintro e w3 ⟨rfl, hb3⟩; have hb4 : Below V.heap.size V w3 := HB2.out.trans (hb3.mono HB2.out.size); have HB3 := Lib.hid hb4; obtain ⟨⟨d1', d2', d3'⟩, d4', d5', d7'⟩ := HVf.out w3 hb4; obtain ⟨x1', x2', x3', x5'⟩ := HXc.out w3 hb4; have tl' := (HLg.out w3 hb4).1; clear hb3 hb4)))
 clear d1 d2 d3 d4 d5 d7 x1 x3 x5
 by_cases q4 : te ≠ 0
 ·have e4 : (te == 0) = false := by rw [beq_eq_false_iff_ne]; exact q4
  have e4n : (te != 0) = true := by simpa using q4
  rw [if_pos q4] at HEq
  have HQ := Lib.hid q4
  clear q4
  go_wp2_with fail
  (try go_ret)
  exact HNo.out te _ _ HQ.out HEq.out HB3.out rfl
 rw [if_neg q4] at HEq
 obtain rfl : te = 0 := Decidable.not_not.1 q4
 clear q4
 have HTok : Hid (TuOk x.tube) := Lib.hid (tuOk_of HTe.out)
 have hn0 : 0 < n := by rw [HNn.out]; exact HTok.out.n0
 have hn64 : n ≤ 64 := by rw [HNn.out]; exact HTok.out.n1
 have HFx := Lib.hid (fun (W : World) (hb : Below V.heap.size V W) => first_any A n cA x.tube W (HTu.out W hb) hn0)
 have HLx := Lib.hid (fun (W : World) (hb : Below V.heap.size V W) => last_any A n cA x.tube W (HTu.out W hb) hn0 hn64)
 have HFxB := Lib.hid (fun (W : World) (hb : Below V.heap.size V W) => (HFx.out W hb).mono fun e W2 hh => (show e = .returned (.int .i64 (fstT x.tube)) ∧ Below W.heap.size W W2 from ⟨hh.1, by rw [hh.2]; exact Below.refl _ _⟩))
 obtain ⟨at_, hat⟩ : ∃ at_, fstT x.tube = at_ := ⟨_, rfl⟩
 obtain ⟨lx, hlx⟩ : ∃ lx, lstT x.tube = lx := ⟨_, rfl⟩
 obtain ⟨fl_, hfl⟩ : ∃ fl_, fstT leg = fl_ := ⟨_, rfl⟩
 obtain ⟨ll, hll⟩ : ∃ ll, lstT leg = ll := ⟨_, rfl⟩
 have bx0 : 0 ≤ at_ := by rw [← hat]; exact HTok.out.fst0
 have bx1 : at_ ≤ 200000 := by rw [← hat]; exact HTok.out.fst1
 have bx2 : 0 ≤ lx := by rw [← hlx]; exact HTok.out.lst0
 have bx3 : lx ≤ 200000 := by rw [← hlx]; exact HTok.out.lst1
 rw [hat, hlx, hfl, hll] at HEq
 rw [hat] at HFx HFxB
 rw [hlx] at HLx
 rw [hfl] at HLf
 rw [hll] at HLs
 have HAt := Lib.hid hat
 have HFl_ := Lib.hid hfl
 have HLl := Lib.hid hll
 clear hat hlx hfl hll
 go_upto_region 15 with (fail)
 have r4 := cell_regrown d4'
 have r5 := cell_regrown x5'
 have rl := cell_regrown tl'
 clear d1' d2' d3' d4' d5' d7' x1' x2' x3' x5' tl'
 refine wp_region_quiet_below (by kernel_rfl) (by kernel_rfl) ?_
 repeat (go_big_quiet_step ((go_at_call 82; exact (HFxB.out _ (HB3.out.trans ((below_regrown w3 _ _).mono HB3.out.size))).regrown_of)))
 refine wpQuiet_nil ?_
 intro w4 hwz
 have hbz : Below V.heap.size V w4 := by obtain ⟨⟨dq, osq⟩, rfl⟩ := hwz; exact HB3.out.trans ((below_regrown w3 _ _).mono HB3.out.size)
 have HB4 := Lib.hid hbz
 obtain ⟨x1, x2, x3, x5⟩ := HXc.out w4 hbz
 have HLf4 := Lib.hid (HLf.out w4 hbz)
 have HLs4 := Lib.hid (HLs.out w4 hbz)
 have HLx4 := Lib.hid (HLx.out w4 hbz)
 clear hwz hbz r4 r5 rl
 by_cases q5 : at_ ≤ x.time
 ·have e5 : decide (at_ ≤ x.time) = true := decide_eq_true q5
  rw [if_pos (.inl q5)] at HEq
  clear q5
  go_wp2_with fail
  (try go_ret)
  exact HNo.out 12 _ _ (by decide) HEq.out HB4.out rfl
 have e5 : decide (at_ ≤ x.time) = false := decide_eq_false q5
 by_cases q6 : at_ ≤ fl_
 ·have e6 : decide (at_ ≤ fl_) = true := decide_eq_true q6
  rw [if_pos (.inr (.inl q6))] at HEq
  clear q5 q6
  go_wp2_with ((go_at_call 82; go_loud (refine HLf4.out.mono ?_; rintro e w5 ⟨rfl, hww⟩; subst w5)))
  (try go_ret)
  exact HNo.out 12 _ _ (by decide) HEq.out HB4.out rfl
 have e6 : decide (at_ ≤ fl_) = false := decide_eq_false q6
 by_cases q7 : ll < at_
 ·have e7 : decide (ll < at_) = true := decide_eq_true q7
  rw [if_pos (.inr (.inr q7))] at HEq
  clear q5 q6 q7
  go_wp2_with (first
   | (go_at_call 82; go_loud (refine HLf4.out.mono ?_; rintro e w5 ⟨rfl, hww⟩; subst w5))
   | (go_at_call 104; go_loud (refine HLs4.out.mono ?_; rintro e w5 ⟨rfl, hww⟩; subst w5)))
  (try go_ret)
  exact HNo.out 12 _ _ (by decide) HEq.out HB4.out rfl
 have e7 : decide (ll < at_) = false := decide_eq_false q7
 rw [if_neg (fun h => h.elim q5 (fun h => h.elim q6 q7))] at HEq
 have HQ6 := Lib.hid (show fl_ ≤ at_ by omega)
 have HQ7 := Lib.hid (show at_ ≤ ll by omega)
 clear q5 q6 q7
 have hws : IntKind.i64.wrap (lx - at_) = lx - at_ := IntWalk.i64_in _ (by omega)
 go_upto_region 18 with (first
   | (go_at_call 82; go_loud (refine HLf4.out.mono ?_; rintro e w5 ⟨rfl, hww⟩; subst w5))
   | (go_at_call 104; go_loud (refine HLs4.out.mono ?_; rintro e w5 ⟨rfl, hww⟩; subst w5)))
 by_cases q8 : 3600 < lx - at_
 ·have e8 : decide (3600 < lx - at_) = true := decide_eq_true q8
  rw [if_pos q8] at HEq
  clear q8
  go_wp2_with ((go_at_call 104; go_loud (refine HLx4.out.mono ?_; rintro e w5 ⟨rfl, hww⟩; subst w5)))
  (try go_ret)
  exact HNo.out 2 _ _ (by decide) HEq.out HB4.out rfl
 have e8 : decide (3600 < lx - at_) = false := decide_eq_false q8
 rw [if_neg q8] at HEq
 clear q8
 have HCut := Lib.hid (Cut_one hd.A hd.n hd.c leg at_ w4 (HLg.out w4 HB4.out).2 HLk.out (by rw [HFl_.out]; exact HQ6.out) (by rw [HLl.out]; exact HQ7.out))
 have HNd := Lib.hid (atN_ok HLk.out (t := at_) (by rw [HFl_.out]; exact HQ6.out) (by rw [HLl.out]; exact HQ7.out)).1
 obtain ⟨nd, hnd⟩ : ∃ nd, atN leg at_ = nd := ⟨_, rfl⟩
 rw [hnd] at HCut HEq HNd
 have HIn := Lib.hid (fun (W : World) (hb : Below V.heap.size V W) (G : Option Addr) (hG : TuA G 1 [nd] W) => Inside_one G 1 1 nd A n cA x.tube W hG HNd.out (HTu.out W hb) HTok.out)
 obtain ⟨ib, hib⟩ : ∃ ib, insN nd x.tube = ib := ⟨_, rfl⟩
 rw [hib] at HIn HEq
 clear hnd hib
 go_upto_region 22 with (first
   | (go_at_call 104; go_loud (refine HLx4.out.mono ?_; rintro e w5 ⟨rfl, hww⟩; subst w5))
   | (go_at_call 112; go_loud (refine HCut.out.mono ?_; rintro e w6 ⟨gc, rfl, hT6, hb6⟩; have hb7 : Below V.heap.size V w6 := HB4.out.trans (hb6.mono HB4.out.size); have HB6 := Lib.hid hb7; have HI6 := Lib.hid (HIn.out w6 hb7 _ hT6); obtain ⟨x1', x2', x3', x5'⟩ := HXc.out w6 hb7; clear hb6 hb7 hT6))
   | (go_at_call 113; go_loud (refine HI6.out.mono ?_; rintro e w7 ⟨rfl, hb8⟩; have hb9 : Below V.heap.size V w7 := HB6.out.trans (hb8.mono HB6.out.size); have HB7 := Lib.hid hb9; obtain ⟨x1'', x2'', x3'', x5''⟩ := HXc.out w7 hb9; clear hb8 hb9)))
 clear x1 x2 x3 x5 x1' x2' x3' x5'
 cases ib with
 | false =>
  rw [if_pos rfl] at HEq
  go_wp2_with fail
  (try go_ret)
  exact HNo.out 19 _ _ (by decide) HEq.out HB7.out rfl
 | true =>
 rw [if_neg (by decide)] at HEq
 have HCl := Lib.hid (HClash.out w7 HB7.out HTok.out (by rw [← HNn.out]; exact HTu.out w7 HB7.out))
 rw [← HNn.out] at HCl
 obtain ⟨cb, hcb⟩ : ∃ cb, clashP S c.fl x.call x.tube = cb := ⟨_, rfl⟩
 rw [hcb] at HCl HEq
 clear hcb
 cases cb with
 | true =>
  rw [if_pos rfl] at HEq
  go_wp2_with ((go_at_call 105; go_loud (refine HCl.out.mono ?_; rintro e w8 ⟨rfl, hb8⟩; have hb9 : Below V.heap.size V w8 := HB7.out.trans (hb8.mono HB7.out.size); have HB8 := Lib.hid hb9; clear hb8 hb9)))
  (try go_ret)
  exact HNo.out 15 _ _ (by decide) HEq.out HB8.out rfl
 | false =>
 rw [if_neg (by decide)] at HEq
 go_upto_region 27 with ((go_at_call 105; go_loud (refine HCl.out.mono ?_; rintro e w8 ⟨rfl, hb8⟩; have hb9 : Below V.heap.size V w8 := HB7.out.trans (hb8.mono HB7.out.size); have HB8 := Lib.hid hb9; obtain ⟨⟨d1, d2, d3⟩, d4, d5, d7⟩ := HVf.out w8 hb9; obtain ⟨x1, x2, x3, x5⟩ := HXc.out w8 hb9; clear hb8 hb9)))
 clear x1'' x2'' x3'' x5''
 have HClo := Lib.hid (fun (W : World) (hb : Below V.heap.size V W) => CloneT_any cA (HTu.out W hb) (by omega))
 cases flands with
 | false =>
  rw [if_neg (by rintro ⟨h, _⟩; cases h)] at HEq
  rw [if_neg (by decide)] at HNl
  go_wp2_with ((go_at_call 46; go_loud (refine (HClo.out w8 HB8.out).mono ?_; rintro e w9 ⟨v9, rfl, ho9, hb9⟩; obtain ⟨A9, c9, rfl⟩ := own_shape ho9; have hb10 : Below V.heap.size V w9 := HB8.out.trans (hb9.mono HB8.out.size); have HB9 := Lib.hid hb10; have HO9 := Lib.hid ho9; obtain ⟨_, _, d5', d7'⟩ := HVf.out w9 hb10; have f5 := HFz.out w9 hb10 5 (by decide); have f7 := HFz.out w9 hb10 7 (by decide); clear hb9 hb10 ho9)))
  (try go_ret)
  have hfin := HFN.out w9 HB9.out A9 w8.heap.size c9 (by have := HB8.out.size; have := HBV.out.size; omega)
  rw [HNl.out, ← HNn.out] at hfin
  rw [← HYes.out HEq.out]
  exact hfin HO9.out
 | true =>
  rw [if_pos rfl] at HNl
  have HL8 := Lib.hid (fun (W : World) (hb : Below V.heap.size V W) => HLand.out W hb fwake HWk.out HTok.out)
  obtain ⟨ld, hld⟩ : ∃ ld, landP S c.fl x.call fwake x.tube = ld := ⟨_, rfl⟩
  rw [hld] at HL8 HEq HNl
  clear hld
  go_upto_region 28 with (fail)
  have r1 := cell_regrown d1
  have r2 := cell_regrown x2
  have r5 := cell_regrown x5
  clear d1 d2 d3 d4 d5 d7 x1 x2 x3 x5
  refine wp_region_quiet_below (by kernel_rfl) (by kernel_rfl) ?_
  repeat (go_big_quiet_step ((go_at_call 106; exact (HL8.out _ (HB8.out.trans ((below_regrown w8 _ _).mono HB8.out.size))).regrown_of)))
  refine wpQuiet_nil ?_
  intro w10 hwz
  have hbz : Below V.heap.size V w10 := by obtain ⟨⟨dq, osq⟩, rfl⟩ := hwz; exact HB8.out.trans ((below_regrown w8 _ _).mono HB8.out.size)
  have HB10 := Lib.hid hbz
  obtain ⟨⟨d1, d2, d3⟩, d4, d5, d7⟩ := HVf.out w10 hbz
  obtain ⟨x1, x2, x3, x5⟩ := HXc.out w10 hbz
  clear hwz hbz r1 r2 r5
  by_cases q9 : fslot < ld
  ·have e9 : decide (fslot < ld) = true := decide_eq_true q9
   rw [if_pos ⟨rfl, q9⟩] at HEq
   clear q9
   go_wp2_with fail
   (try go_ret)
   exact HNo.out 18 _ _ (by decide) HEq.out HB10.out rfl
  have e9 : decide (fslot < ld) = false := decide_eq_false q9
  rw [if_neg (fun h => q9 h.2)] at HEq
  clear q9
  go_wp2_with ((go_at_call 46; go_loud (refine (HClo.out w10 HB10.out).mono ?_; rintro e w9 ⟨v9, rfl, ho9, hb9⟩; obtain ⟨A9, c9, rfl⟩ := own_shape ho9; have hb10 : Below V.heap.size V w9 := HB10.out.trans (hb9.mono HB10.out.size); have HB9 := Lib.hid hb10; have HO9 := Lib.hid ho9; obtain ⟨_, _, d5', d7'⟩ := HVf.out w9 hb10; have f5 := HFz.out w9 hb10 5 (by decide); have f7 := HFz.out w9 hb10 7 (by decide); clear hb9 hb10 ho9)))
  (try go_ret)
  have hfin := HFN.out w9 HB9.out A9 w10.heap.size c9 (by have := HB10.out.size; have := HBV.out.size; omega)
  rw [HNl.out, ← HNn.out] at hfin
  rw [← HYes.out HEq.out]
  exact hfin HO9.out
end Go.Proofs.YtaebebpldkciiaaGreatDoor
namespace Go.Proofs.YtaebebpldkciiaaGreatDoor
open Go.RowKit
theorem meth_any {F : Nat → Prop} {g : Nat} {S : Su} {c : Ce} {y : Lay} {w : World} (h : CeM F g S c y w) (hok : CeOk c) (hS : SuOk S) (h20 : c.acc < 20) (x : Inp) (A : Option Addr) (n cA : Nat) (hT : TuA A n x.tube w) (hn : n ≤ maxLen)
  (hs1 : x.call.size ≤ maxLen) (hs2 : x.by_.size ≤ maxLen) (hs3 : x.to_.size ≤ maxLen) (k : Nat) (hk : x.kind = (k : Int)) (hk7 : k < 7) :
  Calls Tryz.prog (63 + k) #[.pointer (some ⟨g, 0, none⟩), inpV x A n cA] w (MethP F g S w (methP S c x)) := by
 unfold methP
 rcases (show k = 0 ∨ k = 1 ∨ k = 2 ∨ k = 3 ∨ k = 4 ∨ k = 5 ∨ k = 6 by omega) with e | e | e | e | e | e | e <;> subst e
 ·rw [if_pos (show x.kind = 0 from hk)]
  exact file_any h hok hS h20 x A n cA hT hn hs1 hs2
 ·rw [if_neg (show ¬ x.kind = 0 by omega), if_pos (show x.kind = 1 from hk)]
  exact offer_any h hok x A n cA hs3
 ·rw [if_neg (show ¬ x.kind = 0 by omega), if_neg (show ¬ x.kind = 1 by omega), if_pos (show x.kind = 2 from hk)]
  exact accept_any h hok x A n cA
 ·rw [if_neg (show ¬ x.kind = 0 by omega), if_neg (show ¬ x.kind = 1 by omega), if_neg (show ¬ x.kind = 2 by omega), if_pos (show x.kind = 3 from hk)]
  exact clear_any h hok hS x A n cA hT hn
 ·rw [if_neg (show ¬ x.kind = 0 by omega), if_neg (show ¬ x.kind = 1 by omega), if_neg (show ¬ x.kind = 2 by omega), if_neg (show ¬ x.kind = 3 by omega), if_pos (show x.kind = 4 from hk)]
  exact hear_any h hok x A n cA
 ·rw [if_neg (show ¬ x.kind = 0 by omega), if_neg (show ¬ x.kind = 1 by omega), if_neg (show ¬ x.kind = 2 by omega), if_neg (show ¬ x.kind = 3 by omega), if_neg (show ¬ x.kind = 4 by omega), if_pos (show x.kind = 5 from hk)]
  exact refuse_any h hok x A n cA
 ·rw [if_neg (show ¬ x.kind = 0 by omega), if_neg (show ¬ x.kind = 1 by omega), if_neg (show ¬ x.kind = 2 by omega), if_neg (show ¬ x.kind = 3 by omega), if_neg (show ¬ x.kind = 4 by omega), if_neg (show ¬ x.kind = 5 by omega)]
  exact end_any h hok x A n cA
theorem isO_name {c : Ce} (hok : CeOk c) {s : ByteArray} (h : isO c.ow s = true) : nameB s = true := by
 have h1 := isO_spec h
 rw [← h1.2]
 exact (hok.ow.e _ h1.1).call
theorem meth_name {S : Su} {c : Ce} (hok : CeOk c) {x : Inp} (h : (methP S c x).2 = 0) : nameB x.call = true := by
 unfold methP at h
 by_cases k0 : x.kind = 0
 ·rw [if_pos k0] at h
  by_cases hf : fileE S c x = 0
  ·exact (be_zero (fileE_zero hf).1).1
  ·rw [if_neg hf] at h; exact absurd h hf
 rw [if_neg k0] at h
 by_cases hi : isO c.ow x.call = true
 ·exact isO_name hok hi
 exfalso
 have hi' : isO c.ow x.call = false := by simpa using hi
 have e1 : (offP c.ow x.call x.by_ x.to_).2 = 8 := by unfold offP; rw [if_neg hi]
 have e2 : (accP c.ow x.call x.by_).2 = 8 := by unfold accP; rw [if_neg hi]
 have e3 : clearE S c x = 8 := by unfold clearE; rw [if_pos hi']
 have e4 : hearE c x = 8 := by unfold hearE; rw [if_pos hi']
 have e5 : refuseE c x = 8 := by unfold refuseE; rw [if_pos hi']
 have e6 : endE c x = 8 := by unfold endE; rw [if_pos hi']
 rw [e1, e2, e3, e4, e5, e6] at h
 rw [if_neg (show ¬ (8 : Int) = 0 by decide), if_neg (show ¬ (8 : Int) = 0 by decide), if_neg (show ¬ (8 : Int) = 0 by decide), if_neg (show ¬ (8 : Int) = 0 by decide)] at h
 repeat' split at h
 all_goals exact absurd (show (8 : Int) = 0 from h) (by decide)
theorem meth_time {S : Su} {c : Ce} (hok : CeOk c) (h20 : c.acc < 20) (x : Inp) : (methP S c x).1.log = c.log ∧ (methP S c x).1.acc = c.acc := ⟨(meth_ok hok h20 x).log, (meth_ok hok h20 x).acc⟩
section
variable {F G : Nat → Prop} {g : Nat} {S : Su} {c : Ce} {y : Lay} {w W W' : World}
theorem CeM.setTA (h : CeM F g S c y W) (t : Int) (n : Nat) : CeM F g S { c with time := t, acc := n } y ((W.setCell ⟨g, 18, none⟩ (.int .i64 t)).setCell ⟨g, 22, none⟩ (.int .i64 (n : Int))) := by
 have hset : ((W.setCell ⟨g, 18, none⟩ (.int .i64 t)).setCell ⟨g, 22, none⟩ (.int .i64 (n : Int))).heap[g]? = some (.cells (((ceV S c y).setIfInBounds 18 (.int .i64 t)).setIfInBounds 22 (.int .i64 (n : Int))) 102 (0, 0)) :=
  heap_setCell_same _ _ _ _ _ _ (heap_setCell_same _ _ _ _ _ _ h.cs)
 have hoth : ∀ k, k ≠ g → ((W.setCell ⟨g, 18, none⟩ (.int .i64 t)).setCell ⟨g, 22, none⟩ (.int .i64 (n : Int))).heap[k]? = W.heap[k]? := fun k hk => (Below.heap_setCell _ _ _ _ hk).trans (Below.heap_setCell _ _ _ _ hk)
 have hcl : Clean F (fun _ => False) W ((W.setCell ⟨g, 18, none⟩ (.int .i64 t)).setCell ⟨g, 22, none⟩ (.int .i64 (n : Int))) := by
  refine ((Clean.of_below (Below.refl _ _)).set _ ⟨_, _, h.cs, .inl rfl⟩).set _ ?_
  obtain ⟨cur', hc'⟩ := set_typed h.cs ⟨g, 18, none⟩ (.int .i64 t) rfl
  exact ⟨cur', 102, hc', .inl rfl⟩
 have hne : ∀ {e : TypeId} {size n' : Nat} {v : Value} {xs : List Value}, OwnF F W e size v n' xs → e ≠ 102 → OwnF F ((W.setCell ⟨g, 18, none⟩ (.int .i64 t)).setCell ⟨g, 22, none⟩ (.int .i64 (n : Int))) e size v n' xs := fun ho he => ho.stay fun k hk => hoth k (fun e => by
  have := ho.other h.cs (fun e => he e.symm)
  exact this (by rw [hk, e]))
 exact ⟨fun b hb => by simp [World.setCell]; exact h.bd b hb, h.fg, hset, h.fn, h.tn, h.fh, hne h.fown (by decide), fun i hi => hcl.fl h i hi (fun _ _ h => h), h.apart, h.oh, hne h.oown (by decide), h.lg, Clean.log (c := c) (y := y) hcl h, h.lrow⟩
theorem log_fin (h : CeM F g S c y W) {e : Ent} {r : Ending} (hp : AddP y.L y.lA c.log e W r W') : r = .returned (.tuple #[.int .i64 ((c.log.length : Int) + 1), .int .i64 0]) ∧ W'.heap[g]? = W.heap[g]? ∧ ∃ F' : Nat → Prop, CeAt F' g S { c with log := c.log ++ [e] } W' ∧ Off F W W' ∧ ∀ b, F' b → F b ∨ W.heap.size ≤ b := by
 obtain ⟨A', c', hr, hl, hb, hof, hA⟩ := hp
 have hsz := hb.size
 have hlo : OwnF F W 78 4 (.slice y.lA c.log.length y.lc) c.log.length (c.log.flatMap rowE) := ⟨own_mono h.log.2 (Nat.zero_le _), h.lrow⟩
 have hown : ∀ a, y.lA = some a → (Value.slice y.lA c.log.length y.lc).ownBlock = some a.block := fun a ha => by rw [ha]; rfl
 have hK : ∀ (k : Nat) (cur : Array Value) (t : TypeId), W.heap[k]? = some (Obj.cells cur t (0, 0)) → t ≠ 123 → t ≠ 78 → W'.heap[k]? = W.heap[k]? := fun k cur t hc h1 h2 => by
  refine hof k (Array.getElem?_eq_some_iff.1 hc).1 (fun e => ?_) (fun a ha e => ?_)
  ·have := h.log.1
   rw [← e, hc] at this
   cases this
   exact h1 rfl
  ·obtain ⟨cur', hc'⟩ := hlo.blk (hown a ha)
   rw [e, hc] at hc'
   cases hc'
   exact h2 rfl
 have hS : ∀ {e : TypeId} {size n' : Nat} {v : Value} {xs : List Value}, OwnF F W e size v n' xs → e ≠ 123 → e ≠ 78 → OwnF F W' e size v n' xs := fun ho h1 h2 => ho.stay fun k hk => by
  obtain ⟨cur, hc⟩ := ho.blk hk
  exact hK k cur _ hc h1 h2
 have hM : ∀ {e : TypeId} {size n' : Nat} {v : Value} {xs : List Value}, OwnF F W' e size v n' xs → OwnF (grow F W W') W' e size v n' xs := fun ho => ⟨ho.1, fun k hk => .inl (ho.2 k hk)⟩
 refine ⟨hr, hK g _ 102 h.cs (by decide) (by decide), grow F W W', ⟨{ y with lA := A', lc := c' }, ⟨fun b hb => hb.elim (fun hb => by have := h.bd b hb; omega) (fun hb => hb.2), .inl h.fg, (hK g _ 102 h.cs (by decide) (by decide)).trans h.cs, h.fn, h.tn, h.fh, hM (hS h.fown (by decide) (by decide)), fun i hi => ?_, h.apart, h.oh, hM (hS h.oown (by decide) (by decide)), .inl h.lg, hl, fun k hk => ?_⟩⟩, ⟨hb.os, hb.tape, hb.output, hb.size, fun k hk hF => hof k hk (fun e => hF (e ▸ h.lg)) (fun a ha e => hF (e ▸ h.lrow _ (hown a ha)))⟩, fun b hb => hb.elim .inl (fun hb => .inr hb.1)⟩
 ·refine ((h.fl i hi).stay (w' := W') (fun k hF _ ⟨cur, t, hc, ht⟩ => ?_)).mono (fun _ hk => Or.inl hk)
  rcases ht with rfl | ⟨rfl, _⟩
  ·exact hK k cur 52 hc (by decide) (by decide)
  ·exact hK k cur 44 hc (by decide) (by decide)
 ·have hlt := (hl.2.lt k (by simpa using hk)).2
  cases A' with
  | none => simp [Value.ownBlock] at hk
  | some a =>
   have hk' : a.block = k := by simpa [Value.ownBlock] using hk
   rcases hA a rfl with ⟨a0, h0, h1⟩ | h1
   ·left; rw [← hk', ← h1]; exact h.lrow _ (hown a0 h0)
   ·exact .inr ⟨by omega, hlt⟩
end
end Go.Proofs.YtaebebpldkciiaaGreatDoor
