/- TopHolds, TopTorn: a centre that was given inputs. -/
import Derived.Test.YtaebebpldkciiaaGreatDoorQB2
import Derived.Test.YtaebebpldkciiaaGreatDoorQB4
namespace Go.Proofs.YtaebebpldkciiaaGreatDoor
open Go.RowKit
theorem step_log {S : Su} {c : Ce} (hok : CeOk c) (h20 : c.acc < 20) (x : Inp) (h : LogOk c.log) : LogOk (stepP kindsS S c x).1.log := by
 unfold stepP
 split
 ·exact h
 split
 ·exact h
 split
 ·rename_i h1 h2 h3
  obtain ⟨ha, _⟩ := add_zero (ks := kindsS) (k := x.kind.toNat) hok h20 h3 kindsS_ok (by omega) (by omega) (by omega)
  have hl : (methP S c x).1.log = c.log := (meth_ok hok h20 x).log
  show LogOk ((methP S c x).1.log ++ [⟨((methP S c x).1.log.length : Int) + 1, x.time, kindsS x.kind.toNat, x.call⟩])
  rw [hl]
  unfold addC at ha
  have hc : chk (newE c.log x.time (kindsS x.kind.toNat) x.call) = 0 := by
   by_cases hc : chk (newE c.log x.time (kindsS x.kind.toNat) x.call) = 0
   ·exact hc
   ·rw [if_pos hc] at ha; exact ha
  refine h.snoc rfl (chk_ok.1 hc) fun h0 => ?_
  rw [if_neg (fun h => h hc)] at ha
  by_cases hlt : x.time < lastT c.log
  ·rw [if_pos ⟨h0, hlt⟩] at ha; exact absurd ha (by decide)
  ·show lastT c.log ≤ x.time
   omega
 ·exact h
def CtrP (S : Su) (N : Nat) (w : World) (e : Ending) (w' : World) : Prop :=
 ((suE S ≠ 0 ∧ e = .returned (.pointer none)) ∨ (suE S = 0 ∧ ∃ (g : Nat) (c : Ce) (F : Nat → Prop), e = .returned (.pointer (some ⟨g, 0, none⟩)) ∧ CeAt F g S c w' ∧ CeOk c ∧ (∀ b, F b → w.heap.size ≤ b) ∧ c.acc ≤ 14 ∧ Pw LandOne (LandTwo S) c.fl ∧ LogOk c.log)) ∧ Below N w w'
set_option maxRecDepth 100000 in
set_option maxHeartbeats 16000000 in
theorem dCentre_any (S : Su) (l : List Inp) (hs : List Hd) (N n : Nat) (A : Option Addr) (cA : Nat) (w : World) (hks : KsAt kindsS w) (hN0 : 0 < N) (hN : N ≤ w.heap.size) (hI : InsA N A n l hs w) (hcap : n ≤ cA ∧ cA ≤ maxLen) (hnil : A = none → n = 0 ∧ cA = 0) :
  Calls Tryz.prog 12 #[suA S, .slice A n cA] w (CtrP S N w) := by
 have HN := Lib.hid (fun (W : World) => CNew_any S W)
 obtain ⟨V, hV⟩ : ∃ V, w.alloc (suO S) = V := ⟨_, rfl⟩
 have hbV : Below w.heap.size w V := by rw [← hV]; exact (Below.refl _ _).alloc (Nat.le_refl _) _
 have hzV : V.heap.size = w.heap.size + 1 := by rw [← hV, size_al]
 have hgB : V.heap[w.heap.size]? = some (suO S) := by rw [← hV]; exact heap_alloc_new _ _
 unfold suO at hV hgB
 have HGB := Lib.hid hgB
 have HBV := Lib.hid hbV
 have HZ := Lib.hid hzV
 have HKS := Lib.hid hks
 have HI := Lib.hid hI
 obtain ⟨R, hR⟩ : ∃ R, CtrP S N w = R := ⟨_, rfl⟩
 have HRe := Lib.hid hR
 have HNs := Lib.hid hN
 have HN0 := Lib.hid hN0
 obtain ⟨m, hm⟩ : ∃ m, min n 14 = m := ⟨_, rfl⟩
 have hm14 : m ≤ 14 := by omega
 have hmn : m ≤ n := by omega
 have hmi : min (n : Int) 14 = (m : Int) := by omega
 obtain ⟨A2, c2, hsl, hA2⟩ := takeIn (A := A) (c := cA) n m hmn hcap.1 hcap.2 hnil
 rw [hR]
 clear hgB hbV hzV hks hI hR hN0 hm hcap hnil
 obtain ⟨k0, hk0⟩ : ∃ k, suE S = k := ⟨_, rfl⟩
 have HE := Lib.hid hk0
 unfold suA at HN ⊢
 unfold setupA at HN ⊢
 unfold NewP at HN
 rw [hk0] at HN
 clear hk0
 by_cases h0 : k0 = 0
 ·subst h0
  have HN' := Lib.hid (fun (W : World) => (HN.out W).mono (by
   rintro e w' (⟨h1, _⟩ | ⟨_, g, h1, ⟨F, h2, h3⟩, h4⟩)
   ·exact absurd rfl h1
   ·exact ⟨g, h1, ⟨F, h2, h3⟩, h4⟩ : ∀ e w', _ → ∃ g, e = .returned (.tuple #[.pointer (some ⟨g, 0, none⟩), .int .i64 0]) ∧ (∃ F : Nat → Prop, CeAt F g S newC w' ∧ ∀ b, F b → W.heap.size < b) ∧ Below W.heap.size W w'))
  clear HN
  go_enter Tryz.func12, Tryz.ntmps12
  go_upto_region 5 with (first
   | (first | (refine wpList_load_row rfl 27 _ rfl w.heap.size rfl 27 _ (0, 0) _ HGB.out Tryz.underlying27 rfl (by kernel_rfl) ?_) | (refine wpList_load_row_w 27 _ rfl w.heap.size rfl rfl 27 _ (0, 0) _ HGB.out Tryz.underlying27 rfl (by kernel_rfl) ?_))
   | (go_at_call 37; go_loud (refine (HN'.out _).mono ?_; rintro e w1 ⟨g, rfl, ⟨F, hc1, hF1⟩, hb1⟩; have HC1 := Lib.hid hc1; have HF1 := Lib.hid hF1; have HB1 := Lib.hid hb1; clear hc1 hF1 hb1)))
  have hz1 : w.heap.size < w1.heap.size := by have := HB1.out.size; have := HZ.out; omega
  have hN1 : Below N w w1 := (HBV.out.mono hN).trans (HB1.out.mono (by have := HZ.out; omega))
  have HN1 := Lib.hid hN1
  clear hN1
  go_loopw [26] (fun s wr => ∃ (k : Nat) (c : Ce) (F : Nat → Prop), k ≤ m ∧ s = .int .i64 (k : Int) ∧ Hid (CeAt F g S c wr ∧ CeOk c ∧ c.acc ≤ k ∧ Pw LandOne (LandTwo S) c.fl ∧ LogOk c.log) ∧ Hid (∀ b, F b → w.heap.size ≤ b) ∧ Hid (Below N w wr ∧ w1.heap.size ≤ wr.heap.size)) (fun s _ => m - (intOf s).toNat)
  case atStart =>
   exact ⟨0, newC, F, by omega, rfl, Lib.hid ⟨HC1.out, new_ok, by decide, Pw.nil, LogOk.nil⟩, Lib.hid (fun b hb => by have := HF1.out b hb; have := HZ.out; omega), Lib.hid ⟨HN1.out, Nat.le_refl _⟩⟩
  case round =>
   obtain ⟨k, c, F2, hk, rfl, HC, HFb, HB⟩ := hrel
   obtain ⟨wo, hwo⟩ : ∃ wo : World, wo = wr := ⟨_, rfl⟩
   subst hwo
   have hzr := HB.out.2
   by_cases hlt : k < m
   ·have l0 : (0 : Int) ≤ (k : Int) := by omega
    have l1 : (k : Int) < (m : Int) := by omega
    have hkw : IntKind.i64.wrap ((k : Int) + 1) = (k : Int) + 1 := IntWalk.i64_in _ (by omega)
    have hkn : k < n := by omega
    have HIw := Lib.hid (HI.out.below HB.out.1)
    obtain ⟨b, off, hA, hbN, hrow⟩ := HIw.out.row (by omega)
    have hA2' := hA2 (by omega)
    rw [hA] at hA2'
    subst hA2'
    clear hA
    have hr : ∀ j v, (inV l[k]! hs[k]!)[j]? = some v → wo.cell? ⟨b, off + k * 9 + j, none⟩ = some v := hrow k hkn
    obtain ⟨x, hx⟩ : ∃ x, l[k]! = x := ⟨_, rfl⟩
    obtain ⟨⟨tA, tn, tc⟩, hh⟩ : ∃ h, hs[k]! = h := ⟨_, rfl⟩
    have HX := Lib.hid hx
    have HH := Lib.hid hh
    rw [hx, hh] at hr
    have q0 := hr 0 _ rfl
    have q1 := hr 1 _ rfl
    have q2 := hr 2 _ rfl
    have q3 := hr 3 _ rfl
    have q4 := hr 4 _ rfl
    have q5 := hr 5 _ rfl
    have q6 := hr 6 _ rfl
    have q7 := hr 7 _ rfl
    have q8 := hr 8 _ rfl
    simp only [Nat.add_zero] at q0
    clear hr hrow hx hh
    go_upto_region 7 with (fail)
    obtain ⟨w8, hw8⟩ : ∃ W, wo.alloc (.cells #[.int .i64 x.kind, .int .i64 x.time, .string x.call, .string x.by_, .string x.to_, .slice tA tn tc, .int .i64 x.wake, .int .i64 x.slot, .bool x.lands] 62) = W := ⟨_, rfl⟩
    have hb8 : Below wo.heap.size wo w8 := by rw [← hw8]; exact (Below.refl _ _).alloc (Nat.le_refl _) _
    have hB8 : w8.heap[wo.heap.size]? = some (.cells #[.int .i64 x.kind, .int .i64 x.time, .string x.call, .string x.by_, .string x.to_, .slice tA tn tc, .int .i64 x.wake, .int .i64 x.slot, .bool x.lands] 62) := by rw [← hw8]; exact heap_alloc_new _ _
    have hz8 : w8.heap.size = wo.heap.size + 1 := by rw [← hw8, size_al]
    rw [hw8]
    clear hw8 q0 q1 q2 q3 q4 q5 q6 q7 q8
    have hSO : SuOk S := suE_ok HE.out
    have hzw : w.heap.size ≤ w8.heap.size := by omega
    have hNw : Below N w w8 := HB.out.1.trans (hb8.mono (by have := HNs.out; omega))
    have hC8 : CeAt F2 g S c w8 := HC.out.1.elim fun y hy => ⟨y, hy.below hb8⟩
    have hT8 : TuA tA tn x.tube w8 := by have := (HI.out.below hNw).tube k hkn; rw [HX.out, HH.out] at this; exact this.tua (by have := HNs.out; omega)
    have hBx : InB x := by have := HI.out.bd k hkn; rw [HX.out] at this; exact this
    have h20 : c.acc < 20 := by have := HC.out.2.2.1; omega
    have htn : tn ≤ maxLen := by rw [← hT8.1]; exact hBx.tube
    have HSt := Lib.hid (Step_low (N := w.heap.size) (w := w8) hC8 HFb.out (by have := HN0.out; have := HNs.out; omega) hzw HC.out.2.1 hSO h20 x tA tn tc hT8 htn hBx.call hBx.by_ hBx.to_ kindsS (HKS.out.below hNw HN0.out) kindsS_ok)
    have hokc : CeOk (stepP kindsS S c x).1 := step_ok HC.out.2.1 h20 kindsS x
    have hacc : (stepP kindsS S c x).1.acc ≤ k + 1 := by have := step_acc (S := S) HC.out.2.1 h20 kindsS x; have := HC.out.2.2.1; omega
    have hpw : Pw LandOne (LandTwo S) (stepP kindsS S c x).1.fl := step_land hSO HC.out.2.1 kindsS x HC.out.2.2.2.1
    have hlog : LogOk (stepP kindsS S c x).1.log := step_log HC.out.2.1 h20 x HC.out.2.2.2.2
    obtain ⟨⟨c3, kk⟩, hst⟩ : ∃ r, stepP kindsS S c x = r := ⟨_, rfl⟩
    rw [hst] at HSt hokc hacc hpw hlog
    dsimp only at hokc hacc hpw hlog
    unfold inpV at HSt
    have HOK := Lib.hid hokc
    have HAC := Lib.hid hacc
    have HPW := Lib.hid hpw
    have HLG := Lib.hid hlog
    have HB8 := Lib.hid hB8
    have HNW := Lib.hid hNw
    have HZ8 := Lib.hid hz8
    clear hst hokc hacc hpw hlog hC8 hT8 hBx htn hSO hB8 hNw hz8
    go_upto_region 8 with (first
     | (first | (refine wpList_load_row rfl 62 _ rfl wo.heap.size rfl 62 _ (0, 0) _ HB8.out Tryz.underlying62 rfl (by kernel_rfl) ?_) | (refine wpList_load_row_w 62 _ rfl wo.heap.size rfl rfl 62 _ (0, 0) _ HB8.out Tryz.underlying62 rfl (by kernel_rfl) ?_))
     | (go_at_call 39; go_loud (refine HSt.out.mono ?_; rintro e w9 ⟨⟨rfl, hb9, _⟩, hof9, F3, hc9, hs9⟩; have HB9 := Lib.hid hb9; have HC9 := Lib.hid hc9; have HS9 := Lib.hid hs9; clear hb9 hof9 hc9 hs9)))
    go_wp2_with fail
    go_roundw
    case rel =>
     have h9 := HB9.out.size
     exact ⟨k + 1, c3, F3, by omega, by go_num, Lib.hid ⟨HC9.out, HOK.out, HAC.out, HPW.out, HLG.out⟩, Lib.hid (fun b hb => (HS9.out b hb).elim (HFb.out b) (fun h => by have := HZ8.out; omega)), Lib.hid ⟨HNW.out.trans (HB9.out.mono HNs.out), by have := HZ8.out; omega⟩⟩
    case measure => simp [intOf]; omega
   ·obtain rfl : m = k := by omega
    have HR : Hid (R (.returned (.pointer (some ⟨g, 0, none⟩))) wo) := Lib.hid (by rw [← HRe.out]; exact ⟨.inr ⟨HE.out, g, c, F2, rfl, HC.out.1, HC.out.2.1, HFb.out, by have := HC.out.2.2.1; omega, HC.out.2.2.2⟩, HB.out.1⟩)
    go_wp2
    (try go_ret)
    exact HR.out
 ·have eb : (k0 != 0) = true := by simpa using h0
  have HN' := Lib.hid (fun (W : World) => (HN.out W).mono (by
   rintro e w' (⟨_, h1, h2⟩ | ⟨h1, _⟩)
   ·exact ⟨h1, h2⟩
   ·exact absurd h1 h0 : ∀ e w', _ → e = .returned (.tuple #[.pointer none, .int .i64 k0]) ∧ Below W.heap.size W w'))
  clear HN
  go_enter Tryz.func12, Tryz.ntmps12
  go_wp2_with (first
   | (first | (refine wpList_load_row rfl 27 _ rfl w.heap.size rfl 27 _ (0, 0) _ HGB.out Tryz.underlying27 rfl (by kernel_rfl) ?_) | (refine wpList_load_row_w 27 _ rfl w.heap.size rfl rfl 27 _ (0, 0) _ HGB.out Tryz.underlying27 rfl (by kernel_rfl) ?_))
   | (go_at_call 37; go_loud (refine (HN'.out _).mono ?_; rintro e w1 ⟨rfl, hb1⟩; have HB1 := Lib.hid hb1; clear hb1)))
  (try go_ret)
  rw [← HRe.out]
  exact ⟨.inl ⟨fun h => h0 (HE.out.symm.trans h), rfl⟩, (HBV.out.mono HNs.out).trans (HB1.out.mono (by have := HZ.out; have := HNs.out; omega))⟩
end Go.Proofs.YtaebebpldkciiaaGreatDoor
