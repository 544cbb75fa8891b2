/- CentreDelayed returns true for every input. -/
import Derived.Test.YtjmdcpcoliljfaaGreatDoorDelayedZ4
import Derived.Test.YtjmdcpcoliljfaaGreatDoorG20
import Derived.Test.YtjmdcpcoliljfaaGreatDoorDelayedZ1
/- CentreDelayed: the walk. -/
namespace Go.Proofs.YtjmdcpcoliljfaaGreatDoor
open Go.RowKit

theorem in_cells {W : World} {base g n c k : Nat} {l : List (Inp × Hd)} (h : W.ownsRow base 35 9 (.slice (some ⟨g, 0, none⟩) n c) n (rowsV inP l)) (hl : l.length = n) (hk : k < n) :
    (∀ j v, (inP l[k]!)[j]? = some v → W.cell? ⟨g, k * 9 + j, none⟩ = some v) ∧ ∀ j, W.frozen? ⟨g, j, none⟩ = false := by
  refine ⟨fun j v hj => ?_, fun j => ?_⟩
  · obtain ⟨b, off, e, _, hr⟩ := (Sl_rows inP_len h hl (by decide)) (by omega)
    injection e with e
    injection e with e1 e2
    subst e1
    subst e2
    have := hr k hk j v
    simpa using this hj
  · rcases h.2 with ⟨e, _⟩ | ⟨g', cap, cur, e, _, hg, _⟩
    · cases e
    · injection e with e
      injection e with e
      injection e with e1
      subst e1
      exact frozen_of_row _ _ _ _ _ hg
theorem in_cur {W : World} {base g n c : Nat} {l : List Value} (h : W.ownsRow base 35 9 (.slice (some ⟨g, 0, none⟩) n c) n l) : ∃ cur, W.heap[g]? = some (.cells cur 35 (0, 0)) := by
  rcases h.2 with ⟨e, _⟩ | ⟨g', cap, cur, e, _, hg, _⟩
  · cases e
  · injection e with e
    injection e with e
    injection e with e1
    subst e1
    exact ⟨cur, hg⟩
set_option maxRecDepth 100000 in
set_option maxHeartbeats 16000000 in
theorem delayed_any (S : Su) (l : List Inp) (hs : List Hd) (A : Option Addr) (n cA : Nat) (q : Int) (w : World) (h : ArgOk S l hs A n cA w) :
    Calls Tryz.prog 10 #[suA S, .slice A n cA, .int .i64 q] w fun e w' => e = .returned (.bool true) ∧ Below w.heap.size w w' := by
  obtain ⟨w1, hV, hbV, hzV, hgB⟩ := ArgOk.setup (S := S) (w := w)
  have HCut := Lib.hid (fun (a : Int) (W : World) => cl32 a 0 500 (by decide) (by decide) (by decide) W)
  obtain ⟨dt, hdt⟩ : ∃ z, cutP q 0 500 = z := ⟨_, rfl⟩
  have hdr := cutP_in q 0 500 (by decide)
  rw [hdt] at hdr
  have HDT := Lib.hid hdt
  clear hdt
  have H := Lib.hid h
  have HG1 := Lib.hid hgB
  have HZ := Lib.hid hzV
  have HB1 := Lib.hid hbV
  obtain ⟨R, hR⟩ : ∃ R : Ending → World → Prop, (fun e w' => e = .returned (.bool true) ∧ Below w.heap.size w w') = R := ⟨_, rfl⟩
  have HR := Lib.hid (fun (W : World) (hb : Below w.heap.size w W) => (show R (.returned (.bool true)) W from by rw [← hR]; exact ⟨rfl, hb⟩))
  rw [hR]
  clear h hbV hzV hgB hR
  obtain ⟨m, hm⟩ : ∃ m, min n 12 = m := ⟨_, rfl⟩
  have hm12 : m ≤ 12 := by omega
  have hmn : m ≤ n := by omega
  have hmi : min (n : Int) 12 = (m : Int) := by omega
  obtain ⟨A2, c2, hsl, hA2⟩ := takeIn (A := A) (c := cA) n m hmn H.out.cap.1 H.out.cap.2 H.out.nil
  clear hm
  unfold suA setupA
  go_enter Tryz.func10, Tryz.ntmps10
  have HZ1 : Hid (w1.heap.size = w.heap.size + 1) := HZ
  have HI1 := Lib.hid (H.out.ins.below HB1.out)
  have HCl := Lib.hid (clone_in (A2 := A2) (c2 := c2) ⟨0, 0, dt⟩ HI1.out (show w.heap.size ≤ w1.heap.size by have := HZ1.out; omega) hmn hm12 hA2 H.out.nil)
  go_upto_region 4 with (first | (go_at_call 32; go_loud (refine (HCut.out _ _).mono ?_; rintro e v32 ⟨rfl, hv32⟩; obtain rfl := hv32.symm; rw [HDT.out])) | (go_at_call 33; go_loud (refine HCl.out.mono ?_; rintro e w2 ⟨A3, c3, ps0, rfl, hm0, hb2⟩; have HM2 := Lib.hid hm0; have HB2 := Lib.hid hb2; clear hm0 hb2)))
  have HSh := Lib.hid (fun (W : World) (x : Inp) (hd : Hd) (hT : TuA hd.A hd.n x.tube W) (hn : hd.n ≤ maxLen) => (cl34 ⟨0, 0, dt⟩ (show (-500 : Int) ≤ 0 ∧ (0 : Int) ≤ 500 by omega) (show (-500 : Int) ≤ 0 ∧ (0 : Int) ≤ 500 by omega) hdr hd.A hd.n hd.c x.tube W hT hn).mono fun e W' hh => (show ∃ (v : Hd) (k : Int), e = .returned (.tuple #[.slice v.A v.n v.c, .int .i64 k]) ∧ Below W.heap.size W W' ∧ ((k ≠ 0 ∧ 0 < hd.n) ∨ ((k = 0 ∨ hd.n = 0) ∧ TuM (fun q => W.heap.size ≤ q) v (shT ⟨0, 0, dt⟩ x.tube) W' ∧ TwoOk ⟨0, 0, dt⟩ x.tube)) from by
    obtain ⟨hb, ⟨k, hk, rfl⟩ | ⟨v, rfl, h1, h2, h3⟩⟩ := hh
    · by_cases h0 : 0 < hd.n
      · exact ⟨⟨none, 0, 0⟩, k, rfl, hb, .inl ⟨hk, h0⟩⟩
      · have hl : x.tube = [] := List.length_eq_zero_iff.1 (by have := hT.1; omega)
        rw [hl]
        exact ⟨⟨none, 0, 0⟩, k, rfl, hb, .inr ⟨.inr (by omega), TuM.nil _ _, .inl rfl⟩⟩
    · exact ⟨v, 0, rfl, hb, .inr ⟨.inl rfl, h1, .inr ⟨h2, h3⟩⟩⟩))
  dsimp only at HSh
  go_loopw [28] (fun s wr => ∃ (k : Nat) (ps : List (Inp × Hd)), k ≤ m ∧ s = .int .i64 (k : Int) ∧ Hid (MvA ⟨0, 0, dt⟩ l hs w1.heap.size A3 m c3 k ps wr) ∧ Hid (Below w1.heap.size w1 wr)) (fun s _ => m - (intOf s).toNat)
  case atStart => exact ⟨0, ps0, by omega, rfl, HM2, HB2⟩
  case round =>
    obtain ⟨k, ps, hk, rfl, HM, HB⟩ := hrel
    obtain ⟨wo, hwo⟩ : ∃ wo : World, wo = wr := ⟨_, rfl⟩
    subst hwo
    by_cases hlt : k < m
    · have l1 : decide ((k : Int) < (m : Int)) = true := decide_eq_true (by omega)
      have l0 : (0 : Int) ≤ (k : Int) := by omega
      have hkw : IntKind.i64.wrap ((k : Int) + 1) = (k : Int) + 1 := IntWalk.i64_in _ (by omega)
      have hws : IntKind.i64.wrap (200000 - dt) = 200000 - dt := IntWalk.i64_in _ (by omega)
      have hkn : k < n := by omega
      obtain ⟨b, hAb, hbb, hbl, hfz, hcur, hr⟩ := HM.out.at (by omega)
      subst hAb
      have hr := hr k hlt
      rw [HM.out.todo k (Nat.le_refl _) hlt] at hr
      obtain ⟨x, hx⟩ : ∃ x, l[k]! = x := ⟨_, rfl⟩
      obtain ⟨⟨tA, tn, tc⟩, hh⟩ : ∃ h, hs[k]! = h := ⟨_, rfl⟩
      have HX := Lib.hid hx
      have HH := Lib.hid hh
      rw [hx, hh] at hr
      have q0 : wo.cell? ⟨b, k * 9, none⟩ = _ := hr 0 _ rfl
      have q1 := hr 1 _ rfl
      have q2 := hr 2 _ rfl
      have q3 := hr 3 _ rfl
      have q4 := hr 4 _ rfl
      have q5 := hr 5 _ rfl
      have q6 := hr 6 _ rfl
      have q7 := hr 7 _ rfl
      have q8 := hr 8 _ rfl
      clear hr hx hh hfz hcur
      go_upto_region 6 with (fail)
      obtain ⟨w8, hw8⟩ : ∃ W, wo.alloc (.cells #[.int .i64 x.kind, .int .i64 x.time, .string x.call, .string x.by_, .string x.to_, .slice tA tn tc, .int .i64 x.wake, .int .i64 x.slot, .bool x.lands] 35) = W := ⟨_, rfl⟩
      have hb8 : Below wo.heap.size wo w8 := by rw [← hw8]; exact (Below.refl _ _).alloc (Nat.le_refl _) _
      have hB8 : w8.heap[wo.heap.size]? = some (.cells #[.int .i64 x.kind, .int .i64 x.time, .string x.call, .string x.by_, .string x.to_, .slice tA tn tc, .int .i64 x.wake, .int .i64 x.slot, .bool x.lands] 35) := by rw [← hw8]; exact heap_alloc_new _ _
      have hz8 : w8.heap.size = wo.heap.size + 1 := by rw [← hw8, size_al]
      rw [hw8]
      clear hw8 q0 q1 q2 q3 q4 q5 q6 q7 q8
      have hz1 := HB.out.size
      have hzz := HZ1.out
      have HB8 := Lib.hid hB8
      have HBo := Lib.hid hb8
      have HB18 := Lib.hid (HB.out.trans (hb8.mono hz1))
      have HBw8 := Lib.hid (HB1.out.trans (HB18.out.mono (show w.heap.size ≤ w1.heap.size by omega)))
      have hT8 : TuA tA tn x.tube w8 := by have := (H.out.ins.below HBw8.out).tube k hkn; rw [HX.out, HH.out] at this; exact this.tua (by show w.heap.size ≤ w8.heap.size; omega)
      have hBx : InB x := by have := H.out.ins.bd k hkn; rw [HX.out] at this; exact this
      have htn : tn ≤ maxLen := by rw [← hT8.1]; exact hBx.tube
      have hS := HSh.out w8 x ⟨tA, tn, tc⟩ hT8 htn
      dsimp only at hS
      have HS := Lib.hid hS
      clear hS
      have p5 : w8.cell? ⟨wo.heap.size, 5, none⟩ = some (.slice tA tn tc) := cell_of_row w8 wo.heap.size 5 _ _ _ HB8.out
      have HLe := Lib.hid (show wo.heap.size < w8.heap.size ∧ w1.heap.size ≤ w8.heap.size ∧ w.heap.size ≤ w1.heap.size ∧ 0 < w8.heap.size by omega)
      clear hb8 hB8 hT8 hBx htn hzz hz8 hz1
      go_upto_region 7 with (first | (go_at_call 34; go_loud (refine HS.out.mono ?_; rintro e w9 ⟨⟨vA, vn, vc⟩, kk, rfl, hb9, hor⟩; have HB9 := Lib.hid hb9; have HOR := Lib.hid hor; have hB9 := (hb9.block wo.heap.size HLe.out.1).trans HB8.out; have p5 : w9.cell? ⟨wo.heap.size, 5, none⟩ = some (.slice tA tn tc) := cell_of_row w9 wo.heap.size 5 _ _ _ hB9; have p1 : w9.cell? ⟨wo.heap.size, 1, none⟩ = some (.int .i64 x.time) := cell_of_row w9 wo.heap.size 1 _ _ _ hB9; have p7 : w9.cell? ⟨wo.heap.size, 7, none⟩ = some (.int .i64 x.slot) := cell_of_row w9 wo.heap.size 7 _ _ _ hB9; clear hb9 hor hB9)))
      have HB19 := Lib.hid (HB18.out.trans (HB9.out.mono HLe.out.2.1))
      have hz9 := HB9.out.size
      have HBw9 := Lib.hid (HB1.out.trans (HB19.out.mono HLe.out.2.2.1))
      have hle := HLe.out
      have HFa := Lib.hid (fact_any w9 (H.out.ks.below HBw9.out H.out.pos) (by omega))
      obtain ⟨bT, hbT⟩ : ∃ z, (decide ((0 : Int) ≤ x.time) && decide (x.time ≤ 200000 - dt)) = z := ⟨_, rfl⟩
      obtain ⟨bS, hbS⟩ : ∃ z, (decide ((0 : Int) ≤ x.slot) && decide (x.slot ≤ 200000 - dt)) = z := ⟨_, rfl⟩
      have hInT := cl37 x.time 0 (200000 - dt) w9
      have hInS := cl37 x.slot 0 (200000 - dt) w9
      rw [hbT] at hInT
      rw [hbS] at hInS
      have HInT := Lib.hid hInT
      have HInS := Lib.hid hInS
      have HBT := Lib.hid hbT
      have HBS := Lib.hid hbS
      clear hInT hInS hbT hbS
      rcases HOR.out with ⟨h1, h2⟩ | ⟨h1, h2, h3⟩
      · have e2 : (kk != 0) = true := by simpa using h1
        clear h1
        go_wp2_with (first | (go_at_call 11; go_loud (refine HFa.out.mono ?_; rintro e w10 ⟨rfl, hb10⟩; have HB10 := Lib.hid hb10; clear hb10)))
        try go_ret
        exact HR.out _ (HBw9.out.trans (HB10.out.mono (by omega)))
      · have HTu := Lib.hid h2
        have HOk2 := Lib.hid h3
        clear h2 h3
        have hM9 := (HM.out.below HBo.out).below HB9.out
        have HM9 := Lib.hid hM9
        obtain ⟨b', hAb', _, hbl9, hfz9', hcur9, hr9⟩ := hM9.at (by omega)
        obtain rfl : b = b' := by injection hAb' with e; injection e
        have hr9 := hr9 k hlt
        rw [HM.out.todo k (Nat.le_refl _) hlt, HX.out, HH.out] at hr9
        have hfz5 := hfz9' (k * 9 + 5)
        have q59 : w9.cell? ⟨b, k * 9 + 5, none⟩ = some (.slice tA tn tc) := hr9 5 _ rfl
        clear hM9 hAb' hbl9 hfz9' hcur9 hr9
        rcases (show tn = 0 ∨ (0 < tn ∧ kk = 0) by omega) with h0 | ⟨h0, hk0⟩
        · have e1 : ¬ 0 < tn := by omega
          cases bT with
          | false =>
            go_wp2_with (first | (go_at_call 37; go_loud ((first | (with_reducible refine HInT.out.mono ?_) | (with_reducible refine HInS.out.mono ?_)); rintro e v37 ⟨rfl, hv37⟩; obtain rfl := hv37.symm)) | (go_at_call 11; go_loud (refine HFa.out.mono ?_; rintro e w10 ⟨rfl, hb10⟩; have HB10 := Lib.hid hb10; clear hb10)))
            try go_ret
            exact HR.out _ (HBw9.out.trans (HB10.out.mono (by omega)))
          | true =>
            cases bS with
            | false =>
              go_wp2_with (first | (go_at_call 37; go_loud ((first | (with_reducible refine HInT.out.mono ?_) | (with_reducible refine HInS.out.mono ?_)); rintro e v37 ⟨rfl, hv37⟩; obtain rfl := hv37.symm)) | (go_at_call 11; go_loud (refine HFa.out.mono ?_; rintro e w10 ⟨rfl, hb10⟩; have HB10 := Lib.hid hb10; clear hb10)))
              try go_ret
              exact HR.out _ (HBw9.out.trans (HB10.out.mono (by omega)))
            | true =>
              go_upto_region 10 with (first | (go_at_call 37; go_loud ((first | (with_reducible refine HInT.out.mono ?_) | (with_reducible refine HInS.out.mono ?_)); rintro e v37 ⟨rfl, hv37⟩; obtain rfl := hv37.symm)) | (go_at_call 11; go_loud (refine HFa.out.mono ?_; rintro e w10 ⟨rfl, hb10⟩; have HB10 := Lib.hid hb10; clear hb10)))
              have hrg : 0 ≤ x.time ∧ x.time + dt ≤ 200000 ∧ 0 ≤ x.slot ∧ x.slot + dt ≤ 200000 := by
                have h1 := HBT.out
                have h2 := HBS.out
                simp only [Bool.and_eq_true, decide_eq_true_eq] at h1 h2
                omega
              have hpk : ps[k]! = (x, ⟨tA, tn, tc⟩) := by rw [HM.out.todo k (Nat.le_refl _) hlt, HX.out, HH.out]
              have ha := in_set HM9.out.own HM9.out.n hlt 5 (by decide) (.slice vA vn vc) ({ x with tube := shT ⟨0, 0, dt⟩ x.tube }, ⟨vA, vn, vc⟩) (by rw [hpk]; simp [inP, inV])
              have hla : (ps.set k ({ x with tube := shT ⟨0, 0, dt⟩ x.tube }, (⟨vA, vn, vc⟩ : Hd))).length = m := by rw [List.length_set]; exact HM9.out.n
              obtain ⟨w11, hw11⟩ : ∃ W, w9.setCell ⟨b, k * 9 + 5, none⟩ (.slice vA vn vc) = W := ⟨_, rfl⟩
              have hT11 : ∀ (y : Hd) (t : Tu), TuM (fun q => w1.heap.size ≤ q) y t w9 → TuM (fun q => w1.heap.size ≤ q) y t w11 := fun y t hy => by rw [← hw11]; exact hy.set (p := ⟨b, k * 9 + 5, none⟩) (in_cur HM9.out.own).choose_spec (by decide) _
              have HB11 : Hid (Below w1.heap.size w1 w11) := by rw [← hw11]; exact Lib.hid (HB19.out.setCell (p := ⟨b, k * 9 + 5, none⟩) hbb (.slice vA vn vc))
              rw [hw11] at ha ⊢
              have HA := Lib.hid ha
              have HLA := Lib.hid hla
              have HT11 := Lib.hid hT11
              have hc11 := in_cells ha hla hlt
              rw [list_at_set _ (by have := HM9.out.n; omega)] at hc11
              have q1 : w11.cell? ⟨b, k * 9 + 1, none⟩ = some (.int .i64 x.time) := hc11.1 1 _ rfl
              have z1 := hc11.2 (k * 9 + 1)
              have hwt : IntKind.i64.wrap (x.time + dt) = x.time + dt := IntWalk.i64_in _ (by omega)
              have hwsl : IntKind.i64.wrap (x.slot + dt) = x.slot + dt := IntWalk.i64_in _ (by omega)
              clear hw11 ha hla hT11 hc11 q59 hfz5
              go_upto_region 11 with (fail)
              obtain ⟨w12, hw12⟩ : ∃ W, w11.setCell ⟨b, k * 9 + 1, none⟩ (.int .i64 (x.time + dt)) = W := ⟨_, rfl⟩
              have ha := in_set HA.out HLA.out hlt 1 (by decide) (.int .i64 (x.time + dt)) ({ x with tube := shT ⟨0, 0, dt⟩ x.tube, time := x.time + dt }, (⟨vA, vn, vc⟩ : Hd)) (by rw [list_at_set _ (by have := HM9.out.n; omega)]; simp [inP, inV])
              rw [List.set_set] at ha
              have hla : (ps.set k ({ x with tube := shT ⟨0, 0, dt⟩ x.tube, time := x.time + dt }, (⟨vA, vn, vc⟩ : Hd))).length = m := by rw [List.length_set]; exact HM9.out.n
              have hT12 : ∀ (y : Hd) (t : Tu), TuM (fun q => w1.heap.size ≤ q) y t w9 → TuM (fun q => w1.heap.size ≤ q) y t w12 := fun y t hy => by rw [← hw12]; exact (HT11.out y t hy).set (p := ⟨b, k * 9 + 1, none⟩) (in_cur HA.out).choose_spec (by decide) _
              have HB12 : Hid (Below w1.heap.size w1 w12) := by rw [← hw12]; exact Lib.hid (HB11.out.setCell (p := ⟨b, k * 9 + 1, none⟩) hbb _)
              rw [hw12] at ha ⊢
              have HA2 := Lib.hid ha
              have HLA2 := Lib.hid hla
              have HT12 := Lib.hid hT12
              have hc12 := in_cells ha hla hlt
              rw [list_at_set _ (by have := HM9.out.n; omega)] at hc12
              have q7 : w12.cell? ⟨b, k * 9 + 7, none⟩ = some (.int .i64 x.slot) := hc12.1 7 _ rfl
              have z7 := hc12.2 (k * 9 + 7)
              have hb := in_set HA2.out HLA2.out hlt 7 (by decide) (.int .i64 (x.slot + dt)) (mvI ⟨0, 0, dt⟩ l[k]!, (⟨vA, vn, vc⟩ : Hd)) (by rw [list_at_set _ (by have := HM9.out.n; omega), HX.out]; simp [inP, inV, mvI])
              rw [List.set_set] at hb
              have hcur12 := in_cur HA2.out
              obtain ⟨cur12, hcur12⟩ := hcur12
              have hMn := HM9.out.next hlt hb (by rw [HX.out]; exact (hT12 _ _ (HTu.out.mono_ hle.2.1)).set (p := ⟨b, k * 9 + 7, none⟩) hcur12 (by decide) _) (fun y t hy => (hT12 _ _ hy).set (p := ⟨b, k * 9 + 7, none⟩) hcur12 (by decide) _) (by rw [HX.out]; exact ⟨rfl, rfl, rfl, rfl, rfl, rfl, HOk2.out, rfl, rfl, rfl, hdr.1, .inr hrg⟩)
              have HFin := Lib.hid (And.intro hMn (HB12.out.setCell (p := ⟨b, k * 9 + 7, none⟩) hbb (.int .i64 (x.slot + dt))))
              clear hw12 ha hla hT12 hc12 q1 z1 hb hMn hcur12
              go_wp2_with (fail)
              exact ⟨⟨k + 1, _, by omega, rfl, Lib.hid HFin.out.1, Lib.hid HFin.out.2⟩, by simp [intOf]; omega⟩
        · have e2 : (kk != 0) = false := by simpa using hk0
          cases bT with
          | false =>
            go_wp2_with (first | (go_at_call 37; go_loud ((first | (with_reducible refine HInT.out.mono ?_) | (with_reducible refine HInS.out.mono ?_)); rintro e v37 ⟨rfl, hv37⟩; obtain rfl := hv37.symm)) | (go_at_call 11; go_loud (refine HFa.out.mono ?_; rintro e w10 ⟨rfl, hb10⟩; have HB10 := Lib.hid hb10; clear hb10)))
            try go_ret
            exact HR.out _ (HBw9.out.trans (HB10.out.mono (by omega)))
          | true =>
            cases bS with
            | false =>
              go_wp2_with (first | (go_at_call 37; go_loud ((first | (with_reducible refine HInT.out.mono ?_) | (with_reducible refine HInS.out.mono ?_)); rintro e v37 ⟨rfl, hv37⟩; obtain rfl := hv37.symm)) | (go_at_call 11; go_loud (refine HFa.out.mono ?_; rintro e w10 ⟨rfl, hb10⟩; have HB10 := Lib.hid hb10; clear hb10)))
              try go_ret
              exact HR.out _ (HBw9.out.trans (HB10.out.mono (by omega)))
            | true =>
              go_upto_region 10 with (first | (go_at_call 37; go_loud ((first | (with_reducible refine HInT.out.mono ?_) | (with_reducible refine HInS.out.mono ?_)); rintro e v37 ⟨rfl, hv37⟩; obtain rfl := hv37.symm)) | (go_at_call 11; go_loud (refine HFa.out.mono ?_; rintro e w10 ⟨rfl, hb10⟩; have HB10 := Lib.hid hb10; clear hb10)))
              have hrg : 0 ≤ x.time ∧ x.time + dt ≤ 200000 ∧ 0 ≤ x.slot ∧ x.slot + dt ≤ 200000 := by
                have h1 := HBT.out
                have h2 := HBS.out
                simp only [Bool.and_eq_true, decide_eq_true_eq] at h1 h2
                omega
              have hpk : ps[k]! = (x, ⟨tA, tn, tc⟩) := by rw [HM.out.todo k (Nat.le_refl _) hlt, HX.out, HH.out]
              have ha := in_set HM9.out.own HM9.out.n hlt 5 (by decide) (.slice vA vn vc) ({ x with tube := shT ⟨0, 0, dt⟩ x.tube }, ⟨vA, vn, vc⟩) (by rw [hpk]; simp [inP, inV])
              have hla : (ps.set k ({ x with tube := shT ⟨0, 0, dt⟩ x.tube }, (⟨vA, vn, vc⟩ : Hd))).length = m := by rw [List.length_set]; exact HM9.out.n
              obtain ⟨w11, hw11⟩ : ∃ W, w9.setCell ⟨b, k * 9 + 5, none⟩ (.slice vA vn vc) = W := ⟨_, rfl⟩
              have hT11 : ∀ (y : Hd) (t : Tu), TuM (fun q => w1.heap.size ≤ q) y t w9 → TuM (fun q => w1.heap.size ≤ q) y t w11 := fun y t hy => by rw [← hw11]; exact hy.set (p := ⟨b, k * 9 + 5, none⟩) (in_cur HM9.out.own).choose_spec (by decide) _
              have HB11 : Hid (Below w1.heap.size w1 w11) := by rw [← hw11]; exact Lib.hid (HB19.out.setCell (p := ⟨b, k * 9 + 5, none⟩) hbb (.slice vA vn vc))
              rw [hw11] at ha ⊢
              have HA := Lib.hid ha
              have HLA := Lib.hid hla
              have HT11 := Lib.hid hT11
              have hc11 := in_cells ha hla hlt
              rw [list_at_set _ (by have := HM9.out.n; omega)] at hc11
              have q1 : w11.cell? ⟨b, k * 9 + 1, none⟩ = some (.int .i64 x.time) := hc11.1 1 _ rfl
              have z1 := hc11.2 (k * 9 + 1)
              have hwt : IntKind.i64.wrap (x.time + dt) = x.time + dt := IntWalk.i64_in _ (by omega)
              have hwsl : IntKind.i64.wrap (x.slot + dt) = x.slot + dt := IntWalk.i64_in _ (by omega)
              clear hw11 ha hla hT11 hc11 q59 hfz5
              go_upto_region 11 with (fail)
              obtain ⟨w12, hw12⟩ : ∃ W, w11.setCell ⟨b, k * 9 + 1, none⟩ (.int .i64 (x.time + dt)) = W := ⟨_, rfl⟩
              have ha := in_set HA.out HLA.out hlt 1 (by decide) (.int .i64 (x.time + dt)) ({ x with tube := shT ⟨0, 0, dt⟩ x.tube, time := x.time + dt }, (⟨vA, vn, vc⟩ : Hd)) (by rw [list_at_set _ (by have := HM9.out.n; omega)]; simp [inP, inV])
              rw [List.set_set] at ha
              have hla : (ps.set k ({ x with tube := shT ⟨0, 0, dt⟩ x.tube, time := x.time + dt }, (⟨vA, vn, vc⟩ : Hd))).length = m := by rw [List.length_set]; exact HM9.out.n
              have hT12 : ∀ (y : Hd) (t : Tu), TuM (fun q => w1.heap.size ≤ q) y t w9 → TuM (fun q => w1.heap.size ≤ q) y t w12 := fun y t hy => by rw [← hw12]; exact (HT11.out y t hy).set (p := ⟨b, k * 9 + 1, none⟩) (in_cur HA.out).choose_spec (by decide) _
              have HB12 : Hid (Below w1.heap.size w1 w12) := by rw [← hw12]; exact Lib.hid (HB11.out.setCell (p := ⟨b, k * 9 + 1, none⟩) hbb _)
              rw [hw12] at ha ⊢
              have HA2 := Lib.hid ha
              have HLA2 := Lib.hid hla
              have HT12 := Lib.hid hT12
              have hc12 := in_cells ha hla hlt
              rw [list_at_set _ (by have := HM9.out.n; omega)] at hc12
              have q7 : w12.cell? ⟨b, k * 9 + 7, none⟩ = some (.int .i64 x.slot) := hc12.1 7 _ rfl
              have z7 := hc12.2 (k * 9 + 7)
              have hb := in_set HA2.out HLA2.out hlt 7 (by decide) (.int .i64 (x.slot + dt)) (mvI ⟨0, 0, dt⟩ l[k]!, (⟨vA, vn, vc⟩ : Hd)) (by rw [list_at_set _ (by have := HM9.out.n; omega), HX.out]; simp [inP, inV, mvI])
              rw [List.set_set] at hb
              have hcur12 := in_cur HA2.out
              obtain ⟨cur12, hcur12⟩ := hcur12
              have hMn := HM9.out.next hlt hb (by rw [HX.out]; exact (hT12 _ _ (HTu.out.mono_ hle.2.1)).set (p := ⟨b, k * 9 + 7, none⟩) hcur12 (by decide) _) (fun y t hy => (hT12 _ _ hy).set (p := ⟨b, k * 9 + 7, none⟩) hcur12 (by decide) _) (by rw [HX.out]; exact ⟨rfl, rfl, rfl, rfl, rfl, rfl, HOk2.out, rfl, rfl, rfl, hdr.1, .inr hrg⟩)
              have HFin := Lib.hid (And.intro hMn (HB12.out.setCell (p := ⟨b, k * 9 + 7, none⟩) hbb (.int .i64 (x.slot + dt))))
              clear hw12 ha hla hT12 hc12 q1 z1 hb hMn hcur12
              go_wp2_with (fail)
              exact ⟨⟨k + 1, _, by omega, rfl, Lib.hid HFin.out.1, Lib.hid HFin.out.2⟩, by simp [intOf]; omega⟩
    · have l1 : decide ((k : Int) < (m : Int)) = false := decide_eq_false (by omega)
      obtain rfl : m = k := by omega
      obtain ⟨w5, hw5⟩ : ∃ W : World, W = wo := ⟨_, rfl⟩
      subst hw5
      have hz5 := HB.out.size
      have HL5 := Lib.hid (show w.heap.size < w1.heap.size ∧ w1.heap.size ≤ w5.heap.size ∧ w.heap.size < w5.heap.size by have := HZ1.out; omega)
      have HBw5 := Lib.hid (HB1.out.trans (HB.out.mono (show w.heap.size ≤ w1.heap.size by have := HL5.out; omega)))
      have HG5 := Lib.hid ((HB.out.block w.heap.size HL5.out.1).trans HG1.out)
      have HN := Lib.hid (fun (W : World) => CNew_any S W)
      unfold suA setupA at HN
      obtain ⟨k0, hk0⟩ : ∃ k, suE S = k := ⟨_, rfl⟩
      have HE := Lib.hid hk0
      have hk1 := hk0
      unfold NewP at HN
      rw [hk1] at HN
      clear hk0 hk1 hz5
      by_cases h0 : k0 = 0
      · subst h0
        have HN' := Lib.hid (fun (W : World) => (HN.out W).mono (by
          rintro e w' (⟨h1, _⟩ | ⟨_, g, h1, ⟨F, h2, h3⟩, h4⟩)
          · exact absurd rfl h1
          · exact ⟨g, h1, ⟨F, h2, h3⟩, h4⟩ : ∀ e w', _ → ∃ g, e = .returned (.tuple #[.pointer (some ⟨g, 0, none⟩), .int .i64 0]) ∧ (∃ F : Nat → Prop, CeAt F g S newC w' ∧ ∀ b, F b → W.heap.size < b) ∧ Below W.heap.size W w'))
        clear HN
        go_upto_region 14 with (first
          | (first | (refine wpList_load_row rfl 27 _ rfl w.heap.size rfl 27 _ (0, 0) _ HG5.out Tryz.underlying27 rfl (by kernel_rfl) ?_) | (refine wpList_load_row_w 27 _ rfl w.heap.size rfl rfl 27 _ (0, 0) _ HG5.out Tryz.underlying27 rfl (by kernel_rfl) ?_))
          | (go_at_call 35; go_loud (refine (HN'.out _).mono ?_; rintro e w6 ⟨g1, rfl, ⟨F1, hc1, hF1⟩, hb6⟩; have HC1 := Lib.hid hc1; have HF1 := Lib.hid hF1; have HB6 := Lib.hid hb6; have HG6 := Lib.hid ((hb6.block w.heap.size HL5.out.2.2).trans HG5.out); clear hc1 hF1 hb6)))
        go_upto_region 20 with (first
          | (first | (refine wpList_load_row rfl 27 _ rfl w.heap.size rfl 27 _ (0, 0) _ HG6.out Tryz.underlying27 rfl (by kernel_rfl) ?_) | (refine wpList_load_row_w 27 _ rfl w.heap.size rfl rfl 27 _ (0, 0) _ HG6.out Tryz.underlying27 rfl (by kernel_rfl) ?_))
          | (go_at_call 35; go_loud (refine (HN'.out _).mono ?_; rintro e w7 ⟨g2, rfl, ⟨F2, hc2, hF2⟩, hb7⟩; have HC2 := Lib.hid hc2; have HF2 := Lib.hid hF2; have HB7 := Lib.hid hb7; clear hc2 hF2 hb7)))
        have HC1' : Hid (CeAt F1 g1 S newC w7) := Lib.hid (HC1.out.elim fun y hy => ⟨y, hy.below HB7.out⟩)
        have HB57 := Lib.hid (HB6.out.trans (HB7.out.mono HB6.out.size))
        have HD0 : Hid ((∀ b, F1 b → w5.heap.size ≤ b) ∧ (∀ b, F2 b → w5.heap.size ≤ b) ∧ ∀ b, F1 b → ¬ F2 b) := Lib.hid ⟨fun b hb => by have := HF1.out b hb; omega, fun b hb => by have := HF2.out b hb; have := HB6.out.size; omega, fun b hb hb2 => by have := HF2.out b hb2; obtain ⟨y, hy⟩ := HC1.out; have := hy.bd b hb; omega⟩
        have HSO := Lib.hid (suE_ok HE.out)
        go_loopw [120] (fun s wr => ∃ (k : Nat) (c c' : Ce) (F1 F2 : Nat → Prop), k ≤ m ∧ s = .int .i64 (k : Int) ∧ Hid (CeAt F1 g1 S c wr ∧ CeOk c ∧ c.acc ≤ k) ∧ Hid (CeAt F2 g2 S c' wr ∧ CeOk c' ∧ c'.acc ≤ k) ∧ Hid (ShC ⟨0, 0, dt⟩ c c') ∧ Hid ((∀ b, F1 b → w5.heap.size ≤ b) ∧ (∀ b, F2 b → w5.heap.size ≤ b) ∧ ∀ b, F1 b → ¬ F2 b) ∧ Hid (Below w5.heap.size w5 wr)) (fun s _ => m - (intOf s).toNat)
        case atStart => exact ⟨0, newC, newC, F1, F2, by omega, rfl, Lib.hid ⟨HC1'.out, new_ok, by decide⟩, Lib.hid ⟨HC2.out, new_ok, by decide⟩, Lib.hid (ShC.new _), HD0, HB57⟩
        case round =>
          obtain ⟨k, c, c', F1, F2, hk, rfl, HCa, HCb, HSC, HD, HBq⟩ := hrel
          obtain ⟨wq, hwq⟩ : ∃ wq : World, wq = wr := ⟨_, rfl⟩
          subst hwq
          by_cases hlt : k < m
          · have l1 : decide ((k : Int) < (m : Int)) = true := decide_eq_true (by omega)
            have l0 : (0 : Int) ≤ (k : Int) := by omega
            have l2 : (k : Int) < (n : Int) := by omega
            have hkw : IntKind.i64.wrap ((k : Int) + 1) = (k : Int) + 1 := IntWalk.i64_in _ (by omega)
            have hkn : k < n := by omega
            have hMq := HM.out.below HBq.out
            obtain ⟨b3, hA3, hbb3, hbl3, _, _, hr⟩ := hMq.at (by omega)
            subst hA3
            have hr := hr k hlt
            obtain ⟨x, hx⟩ : ∃ x, l[k]! = x := ⟨_, rfl⟩
            obtain ⟨⟨tA, tn, tc⟩, hh⟩ : ∃ h, hs[k]! = h := ⟨_, rfl⟩
            obtain ⟨hd1, hd2, hd3⟩ := HM.out.done k hlt
            rw [hx] at hd1 hd2 hd3
            obtain ⟨⟨y, ⟨yA, yn, yc⟩⟩, hpk⟩ : ∃ p, ps[k]! = p := ⟨_, rfl⟩
            rw [hpk] at hr hd1 hd2
            dsimp only at hd1 hd2
            have HX := Lib.hid hx
            have HH := Lib.hid hh
            have HY := Lib.hid hd1
            have HYT := Lib.hid hd2
            have HYS := Lib.hid hd3
            have q0 : wq.cell? ⟨b3, k * 9, none⟩ = _ := hr 0 _ rfl
            have q1 := hr 1 _ rfl
            have q2 := hr 2 _ rfl
            have q3 := hr 3 _ rfl
            have q4 := hr 4 _ rfl
            have q5 := hr 5 _ rfl
            have q6 := hr 6 _ rfl
            have q7 := hr 7 _ rfl
            have q8 := hr 8 _ rfl
            clear hr hx hh hd1 hd2 hd3 hpk hMq
            go_upto_region 22 with (fail)
            obtain ⟨w8, hw8⟩ : ∃ W, wq.alloc (.cells #[.int .i64 y.kind, .int .i64 y.time, .string y.call, .string y.by_, .string y.to_, .slice yA yn yc, .int .i64 y.wake, .int .i64 y.slot, .bool y.lands] 35) = W := ⟨_, rfl⟩
            have hb8 : Below wq.heap.size wq w8 := by rw [← hw8]; exact (Below.refl _ _).alloc (Nat.le_refl _) _
            have hB8 : w8.heap[wq.heap.size]? = some (.cells #[.int .i64 y.kind, .int .i64 y.time, .string y.call, .string y.by_, .string y.to_, .slice yA yn yc, .int .i64 y.wake, .int .i64 y.slot, .bool y.lands] 35) := by rw [← hw8]; exact heap_alloc_new _ _
            have hz8 : w8.heap.size = wq.heap.size + 1 := by rw [← hw8, size_al]
            rw [hw8]
            clear hw8 q0 q1 q2 q3 q4 q5 q6 q7 q8
            have hl5 := HL5.out
            have hzq := HBq.out.size
            have HLe := Lib.hid (show wq.heap.size < w8.heap.size ∧ w5.heap.size ≤ w8.heap.size ∧ w.heap.size ≤ w5.heap.size ∧ 0 < w5.heap.size by omega)
            have HB58 := Lib.hid (HBq.out.trans (hb8.mono hzq))
            have HB58d := Lib.hid (HB58.out.trans (show Below w5.heap.size w8 w8.drew from ((Below.refl _ _).drew).mono HLe.out.2.1))
            have HBw8 := Lib.hid (HBw5.out.trans (HB58d.out.mono HLe.out.2.2.1))
            have hBx : InB x := by have := H.out.ins.bd k hkn; rw [HX.out] at this; exact this
            have hT8 : TuA tA tn x.tube w8.drew := by have := (H.out.ins.below HBw8.out).tube k hkn; rw [HX.out, HH.out] at this; exact this.tua (by show w.heap.size ≤ w8.heap.size; omega)
            have htn : tn ≤ maxLen := by rw [← hT8.1]; exact hBx.tube
            have h20 : c.acc < 20 := by have := HCa.out.2.2; omega
            have h20' : c'.acc < 20 := by have := HCb.out.2.2; omega
            have hb8d : Below wq.heap.size wq w8.drew := hb8.drew
            have hC8 : CeAt F1 g1 S c w8.drew := HCa.out.1.elim fun y hy => ⟨y, hy.below hb8d⟩
            have hC8' : CeAt F2 g2 S c' w8.drew := HCb.out.1.elim fun y hy => ⟨y, hy.below hb8d⟩
            have hks5 : KsAt kindsS w8.drew := H.out.ks.below HBw8.out H.out.pos
            have HSt := Lib.hid (Step_low (N := w5.heap.size) (w := w8.drew) hC8 HD.out.1 HLe.out.2.2.2 HLe.out.2.1 HCa.out.2.1 HSO.out h20 x tA tn tc hT8 htn hBx.call hBx.by_ hBx.to_ kindsS hks5 kindsS_ok)
            have hyn : yn = (shT ⟨0, 0, dt⟩ x.tube).length := HYT.out.1
            have hyl : yn ≤ maxLen := by rw [hyn, shT_len]; exact hBx.tube
            have HSt2 := Lib.hid (fun (W : World) (ho : Off F1 w8.drew W) (hb : Below w5.heap.size w8.drew W) => (Step_low (N := w5.heap.size) (w := W) (c := c') (g := g2) (S := S) (F := F2) (hC8'.elim fun y hy => ⟨y, hy.kept (Kept.of_off ho (fun b hb2 hb1 => HD.out.2.2 b hb1 hb2))⟩) HD.out.2.1 HLe.out.2.2.2 (Nat.le_trans HLe.out.2.1 hb.size) HCb.out.2.1 HSO.out h20' y yA yn yc
              (by
                have h1 : TuM (fun q => w1.heap.size ≤ q) ⟨yA, yn, yc⟩ (shT ⟨0, 0, dt⟩ x.tube) w5 := HYT.out
                have h2 : TuM (fun q => w1.heap.size ≤ q ∧ q < w5.heap.size) ⟨yA, yn, yc⟩ (shT ⟨0, 0, dt⟩ x.tube) w5 := ⟨h1.1, h1.2.1, fun q hq => ⟨h1.2.2 q hq, (h1.2.1.lt q hq).2⟩⟩
                have h3 := h2.kept (w' := W) ⟨Nat.le_trans HBq.out.size (Nat.le_trans (Nat.le_of_lt HLe.out.1) hb.size), fun q _ hq => (HB58d.out.trans hb).block q hq.2⟩
                have := h3.tua
                rw [show y.tube = shT ⟨0, 0, dt⟩ x.tube by rw [HY.out]; rfl]
                exact this)
              hyl (by rw [HY.out]; exact hBx.call) (by rw [HY.out]; exact hBx.by_) (by rw [HY.out]; exact hBx.to_) kindsS (hks5.below hb HLe.out.2.2.2) kindsS_ok))
            have hsh := stepP_sh (S := S) kindsS HSC.out HYS.out HCa.out.2.1 HCb.out.2.1
            have hok1 : CeOk (stepP kindsS S c x).1 := step_ok HCa.out.2.1 h20 kindsS x
            have hok2 : CeOk (stepP kindsS S c' y).1 := step_ok HCb.out.2.1 h20' kindsS y
            have hac1 : (stepP kindsS S c x).1.acc ≤ k + 1 := by have := step_acc (S := S) HCa.out.2.1 h20 kindsS x; have := HCa.out.2.2; omega
            have hac2 : (stepP kindsS S c' y).1.acc ≤ k + 1 := by have := step_acc (S := S) HCb.out.2.1 h20' kindsS y; have := HCb.out.2.2; omega
            rw [← HY.out] at hsh
            obtain ⟨⟨c3, kk⟩, hst⟩ : ∃ r, stepP kindsS S c x = r := ⟨_, rfl⟩
            obtain ⟨⟨c4, kk'⟩, hst2⟩ : ∃ r, stepP kindsS S c' y = r := ⟨_, rfl⟩
            rw [hst] at HSt hsh hok1 hac1
            rw [hst2] at HSt2 hsh hok2 hac2
            dsimp only at hsh hok1 hok2 hac1 hac2
            obtain ⟨hkk, hsc⟩ := hsh
            subst hkk
            unfold inpV at HSt HSt2
            have HOK := Lib.hid (And.intro (And.intro hok1 hac1) (And.intro hok2 hac2))
            have HSC2 := Lib.hid hsc
            have HB8 := Lib.hid hB8
            have ekk : (kk' != kk') = false := by simp
            have hXF : ¬ F1 wq.heap.size := fun h => by obtain ⟨y, hy⟩ := HCa.out.1; have := hy.bd _ h; omega
            have hXF2 : ¬ F2 wq.heap.size := fun h => by obtain ⟨y, hy⟩ := HCb.out.1; have := hy.bd _ h; omega
            have HXF := Lib.hid (And.intro hXF hXF2)
            have HBd : Hid ((∀ b, F1 b → b < w8.heap.size) ∧ ∀ b, F2 b → b < w8.heap.size) := Lib.hid ⟨fun b hb => by obtain ⟨y, hy⟩ := hC8; exact hy.bd b hb, fun b hb => by obtain ⟨y, hy⟩ := hC8'; exact hy.bd b hb⟩
            obtain ⟨bA, off, hA, hbN, hrow⟩ := (H.out.ins.below (HBw5.out.trans (HB58.out.mono HLe.out.2.2.1))).row (by omega)
            subst hA
            have hrow : ∀ j v, (inV l[k]! hs[k]!)[j]? = some v → w8.cell? ⟨bA, off + k * 9 + j, none⟩ = some v := hrow k hkn
            rw [HX.out, HH.out] at hrow
            have q0 := hrow 0 _ rfl
            have q1 := hrow 1 _ rfl
            have q2 := hrow 2 _ rfl
            have q3 := hrow 3 _ rfl
            have q4 := hrow 4 _ rfl
            have q5 := hrow 5 _ rfl
            have q6 := hrow 6 _ rfl
            have q7 := hrow 7 _ rfl
            have q8 := hrow 8 _ rfl
            simp only [Nat.add_zero] at q0
            clear hrow hbN hst hst2 hok1 hok2 hac1 hac2 hsc hB8 hXF hXF2 hC8 hC8' hks5 hT8 hBx htn hyn hyl hb8 hb8d hl5 hzq hz8
            refine wp_region_held_drew (S := (fun W => W.heap[wq.heap.size]? = some (.cells #[.int .i64 y.kind, .int .i64 y.time, .string y.call, .string y.by_, .string y.to_, .slice yA yn yc, .int .i64 y.wake, .int .i64 y.slot, .bool y.lands] 35))) (by kernel_rfl) HB8.out (fun hHeld => ?_)
            refine wpAnyH_take (i := 0) (oi := ⟨some 125, _, _, _, _, _⟩) (v := ?hu0) rfl (by kernel_rfl) (by kernel_rfl) (by kernel_rfl) (fun _ _ _ h => h) (Or.inl ⟨by rfl, ?hp0⟩) hHeld ?hq0
            case hp0 => (intro W hSw; (try dsimp only at hSw); go_simp; try with_reducible rfl)
            try simp only [Act.put, List.setIfInBounds_toArray, List.set_cons_zero, List.set_cons_succ]
            refine wpAnyH_take (i := 1) (oi := ⟨some 126, _, _, _, _, _⟩) (v := ?hu1) rfl (by kernel_rfl) (by kernel_rfl) (by kernel_rfl) (fun _ _ _ h => h) (Or.inl ⟨by rfl, ?hp1⟩) hHeld ?hq1
            case hp1 => (intro W hSw; (try dsimp only at hSw); go_simp; try with_reducible rfl)
            try simp only [Act.put, List.setIfInBounds_toArray, List.set_cons_zero, List.set_cons_succ]
            refine wpAnyH_take (i := 2) (oi := ⟨some 127, _, _, _, _, _⟩) (v := ?hu2) rfl (by kernel_rfl) (by kernel_rfl) (by kernel_rfl) (fun _ _ _ h => h) (Or.inl ⟨by rfl, ?hp2⟩) hHeld ?hq2
            case hp2 => (intro W hSw; (try dsimp only at hSw); go_simp; try with_reducible rfl)
            try simp only [Act.put, List.setIfInBounds_toArray, List.set_cons_zero, List.set_cons_succ]
            refine wpAnyH_take (i := 3) (oi := ⟨some 128, _, _, _, _, _⟩) (v := ?hu3) rfl (by kernel_rfl) (by kernel_rfl) (by kernel_rfl) (fun _ _ _ h => h) (Or.inl ⟨by rfl, ?hp3⟩) hHeld ?hq3
            case hp3 => (intro W hSw; (try dsimp only at hSw); go_simp; try with_reducible rfl)
            try simp only [Act.put, List.setIfInBounds_toArray, List.set_cons_zero, List.set_cons_succ]
            refine wpAnyH_take (i := 6) (oi := ⟨some 131, _, _, _, _, _⟩) (v := ?hu6) rfl (by kernel_rfl) (by kernel_rfl) (by kernel_rfl) (fun _ _ _ h => h) (Or.inl ⟨by rfl, ?hp6⟩) hHeld ?hq6
            case hp6 => (intro W hSw; (try dsimp only at hSw); go_simp; try with_reducible rfl)
            try simp only [Act.put, List.setIfInBounds_toArray, List.set_cons_zero, List.set_cons_succ]
            refine wpAnyH_take (i := 7) (oi := ⟨some 132, _, _, _, _, _⟩) (v := ?hu7) rfl (by kernel_rfl) (by kernel_rfl) (by kernel_rfl) (fun _ _ _ h => h) (Or.inl ⟨by rfl, ?hp7⟩) hHeld ?hq7
            case hp7 => (intro W hSw; refine run_exec_row (P := Tryz.prog) 35 (.tmp 17) ?_ wq.heap.size ?_ 35 _ (0, 0) _ hSw Tryz.underlying35 rfl (by kernel_rfl) <;> rfl)
            try simp only [Act.put, List.setIfInBounds_toArray, List.set_cons_zero, List.set_cons_succ]
            refine wpAnyH_ready (rs := [4]) (by kernel_rfl) (by simp) ?_
            refine (AllReadyH.cons (o := ⟨some 129, _, _, _, _, _⟩) rfl (fun K hK => ?_) AllReadyH.nil)
            go_simp
            refine hK.out _ _ hHeld (fun hHeld => ?_)
            clear hK K
            try simp only [Act.put, List.setIfInBounds_toArray, List.set_cons_zero, List.set_cons_succ]
            refine wpAnyH_ready (rs := [5]) (by kernel_rfl) (by simp) ?_
            refine (AllReadyH.cons (o := ⟨some 130, _, _, _, _, _⟩) rfl (fun K hK => ?_) AllReadyH.nil)
            go_simp
            go_at_call 36
            (with_reducible refine HSt.out.mono ?_)
            rintro e w9 ⟨⟨rfl, hb9, _⟩, hof9, F3, hc9, hs9⟩
            have hof9 : Off F1 w8 w9 := ⟨hof9.os, hof9.tape, hof9.output, hof9.size, hof9.block⟩
            have hx9 := (hof9.block wq.heap.size HLe.out.1 HXF.out.1).trans HB8.out
            have HS2 := Lib.hid (HSt2.out w9 ⟨hof9.os, hof9.tape, hof9.output, hof9.size, hof9.block⟩ hb9)
            have HOF9 := Lib.hid hof9
            have HB9 : Hid (Below w5.heap.size w8 w9) := Lib.hid ⟨hb9.os, hb9.tape, hb9.output, hb9.size, hb9.block⟩
            have HC9 := Lib.hid hc9
            have HS9 := Lib.hid hs9
            clear hof9 hb9 hc9 hs9 HSt2
            refine hK.out _ _ hx9 (fun hHeld => ?_)
            clear hK K
            refine wpAnyH_ready (rs := [8]) (by kernel_rfl) (by simp) ?_
            refine (AllReadyH.cons (o := ⟨some 133, _, _, _, _, _⟩) rfl (fun K hK => ?_) AllReadyH.nil)
            go_simp
            go_at_call 36
            (with_reducible refine HS2.out.mono ?_)
            rintro e w10 ⟨⟨rfl, hb10, _⟩, hof10, F4, hc10, hs10⟩
            have hx10 := (hof10.block wq.heap.size (Nat.lt_of_lt_of_le HLe.out.1 HOF9.out.size) HXF.out.2).trans hx9
            have HOF10 := Lib.hid hof10
            have HB10 := Lib.hid hb10
            have HC10 := Lib.hid hc10
            have HS10 := Lib.hid hs10
            clear hof10 hb10 hc10 hs10
            refine hK.out _ _ hx10 (fun hHeld => ?_)
            clear hK K
            refine wpAnyH_take (i := 9) (oi := ⟨some 134, _, _, _, _, _⟩) (v := ?hu9) rfl (by kernel_rfl) (by kernel_rfl) (by kernel_rfl) (fun _ _ _ h => h) (Or.inl ⟨by rfl, ?hp9⟩) hHeld ?hq9
            case hp9 => (intro W hSw; (try dsimp only at hSw); go_simp; try with_reducible rfl)
            try simp only [Act.put, List.setIfInBounds_toArray, List.set_cons_zero, List.set_cons_succ]
            refine wpAnyH_done (by kernel_rfl) ?_ _
            go_wp2_with fail
            have hz9 : w8.heap.size ≤ w9.heap.size := HOF9.out.size
            have hle := HLe.out
            have hF3 : ∀ b, F3 b → ¬ F2 b := fun b hb hb2 => (HS9.out b hb).elim (fun h => HD.out.2.2 b h hb2) (fun h => by have h : w8.heap.size ≤ b := h; have := HBd.out.2 b hb2; omega)
            have hC9 : CeAt F3 g1 S c3 w10 := HC9.out.elim fun y hy => ⟨y, hy.kept (Kept.of_off HOF10.out hF3)⟩
            refine ⟨⟨k + 1, c3, c4, F3, F4, by omega, rfl, Lib.hid ⟨hC9, HOK.out.1⟩, Lib.hid ⟨HC10.out, HOK.out.2⟩, HSC2, Lib.hid ⟨fun b hb => (HS9.out b hb).elim (HD.out.1 b) (fun h => by have h : w8.heap.size ≤ b := h; omega), fun b hb => (HS10.out b hb).elim (HD.out.2.1 b) (fun h => by omega), fun b hb hb4 => (HS10.out b hb4).elim (hF3 b hb) (fun h => by obtain ⟨y, hy⟩ := HC9.out; have := hy.bd b hb; omega)⟩, Lib.hid (HB58.out.trans (HB9.out.trans HB10.out))⟩, by simp [intOf]; omega⟩
          · have l1 : decide ((k : Int) < (m : Int)) = false := decide_eq_false (by omega)
            obtain rfl : m = k := by omega
            have hl5 := HL5.out
            have hzq := HBq.out.size
            have HBwq := Lib.hid (HBw5.out.trans (HBq.out.mono (show w.heap.size ≤ w5.heap.size by omega)))
            have HFa := Lib.hid (fact_any wq (H.out.ks.below HBwq.out H.out.pos) (by omega))
            obtain ⟨y1, hM1⟩ := HCa.out.1
            obtain ⟨y2, hM2⟩ := HCb.out.1
            obtain ⟨on, hon⟩ : ∃ on, c.ow.length = on := ⟨_, rfl⟩
            have hon' : c'.ow.length = on := by rw [HSC.out.ow]; exact hon
            have HOn := Lib.hid hon
            have HOw1 := Lib.hid (fun (W : World) (hb : Below wq.heap.size wq W) => (Owners_any (hM1.below hb) HCa.out.2.1).mono fun e w' hh => (show ∃ pA pc, e = .returned (.slice pA on pc) ∧ OwnF (fun _ => True) w' 57 3 (.slice pA on pc) on (rowsV owV c.ow) ∧ Below wq.heap.size wq w' from by
              obtain ⟨pA, pc, a1, a2, a3⟩ := hh
              rw [hon] at a1 a2
              exact ⟨pA, pc, a1, a2.mono (fun _ _ => trivial), hb.trans (a3.mono hb.size)⟩))
            have HOw2 := Lib.hid (fun (W : World) (hb : Below wq.heap.size wq W) => (Owners_any (hM2.below hb) HCb.out.2.1).mono fun e w' hh => (show ∃ pA pc, e = .returned (.slice pA on pc) ∧ OwnF (fun _ => True) w' 57 3 (.slice pA on pc) on (rowsV owV c.ow) ∧ Below W.heap.size W w' from by
              obtain ⟨pA, pc, a1, a2, a3⟩ := hh
              rw [hon'] at a1 a2
              rw [HSC.out.ow] at a2
              exact ⟨pA, pc, a1, a2.mono (fun _ _ => trivial), a3⟩))
            have HEq := Lib.hid (fun (W : World) (pA qA : Option Addr) (pc qc : Nat) (ha : OwnF (fun _ => True) W 57 3 (.slice pA on pc) on (rowsV owV c.ow)) (hb : OwnF (fun _ => True) W 57 3 (.slice qA on qc) on (rowsV owV c.ow)) => eq29_any pA qA on pc qc c.ow W (by have h := ha; rw [← hon] at h ⊢; exact h.owa) (by have h := hb; rw [← hon] at h ⊢; exact h.owa) (by have := HCa.out.2.1.ow.n; omega))
            clear hM1 hM2 hon hon' hl5 hzq
            go_wp2_with (first
              | (go_at_call 11; go_loud (refine HFa.out.mono ?_; rintro e v1 ⟨rfl, hb1⟩; have HV1 := Lib.hid hb1; clear hb1))
              | (go_at_call 29; go_loud (refine (HEq.out v3 pA qA pc qc (HO2.out.below HV23.out) HO3.out).mono ?_; rintro e v4 ⟨rfl, hb4⟩; have HV4 := Lib.hid (HV3.out.trans (hb4.mono HV3.out.size)); clear hb4))
              | (go_at_call 20; go_loud (refine (HOw2.out v2 HV2.out).mono ?_; rintro e v3 ⟨qA, qc, rfl, ho3, hb3⟩; have HO3 := Lib.hid ho3; have HV23 := Lib.hid hb3; have HV3 := Lib.hid (HV2.out.trans (hb3.mono HV2.out.size)); clear ho3 hb3))
              | (go_at_call 20; go_loud (refine (HOw1.out v1 HV1.out).mono ?_; rintro e v2 ⟨pA, pc, rfl, ho2, hb2⟩; have HO2 := Lib.hid ho2; have HV2 := Lib.hid hb2; clear ho2 hb2)))
            try go_ret
            exact HR.out _ (HBwq.out.trans (HV4.out.mono HBwq.out.size))
      · have e1 : (k0 != 0) = true := by simpa using h0
        have e2 : (k0 == k0) = true := by simp
        have HN' := Lib.hid (fun (W : World) => (HN.out W).mono (by
          rintro e w' (⟨_, h1, h2⟩ | ⟨h1, _⟩)
          · exact ⟨h1, h2⟩
          · exact absurd h1 h0 : ∀ e w', _ → e = .returned (.tuple #[.pointer none, .int .i64 k0]) ∧ Below W.heap.size W w'))
        clear HN
        go_upto_region 14 with (first
          | (first | (refine wpList_load_row rfl 27 _ rfl w.heap.size rfl 27 _ (0, 0) _ HG5.out Tryz.underlying27 rfl (by kernel_rfl) ?_) | (refine wpList_load_row_w 27 _ rfl w.heap.size rfl rfl 27 _ (0, 0) _ HG5.out Tryz.underlying27 rfl (by kernel_rfl) ?_))
          | (go_at_call 35; go_loud (refine (HN'.out _).mono ?_; rintro e w6 ⟨rfl, hb6⟩; have HB6 := Lib.hid hb6; have HG6 := Lib.hid ((hb6.block w.heap.size HL5.out.2.2).trans HG5.out); clear hb6)))
        go_upto_region 15 with (first
          | (first | (refine wpList_load_row rfl 27 _ rfl w.heap.size rfl 27 _ (0, 0) _ HG6.out Tryz.underlying27 rfl (by kernel_rfl) ?_) | (refine wpList_load_row_w 27 _ rfl w.heap.size rfl rfl 27 _ (0, 0) _ HG6.out Tryz.underlying27 rfl (by kernel_rfl) ?_))
          | (go_at_call 35; go_loud (refine (HN'.out _).mono ?_; rintro e w7 ⟨rfl, hb7⟩; have HB7 := Lib.hid hb7; clear hb7)))
        have HBw7 := Lib.hid (HBw5.out.trans ((HB6.out.trans (HB7.out.mono HB6.out.size)).mono (show w.heap.size ≤ w5.heap.size by have := HL5.out; omega)))
        have HFa := Lib.hid (fact_any w7 (H.out.ks.below HBw7.out H.out.pos) (by have := HBw7.out.size; have := H.out.pos; omega))
        go_wp2_with (first | (go_at_call 11; go_loud (refine HFa.out.mono ?_; rintro e w8 ⟨rfl, hb8⟩; have HB8 := Lib.hid hb8; clear hb8)))
        try go_ret
        exact HR.out _ (HBw7.out.trans (HB8.out.mono HBw7.out.size))
end Go.Proofs.YtjmdcpcoliljfaaGreatDoor

/- CentreDelayed returns true for every input. -/
namespace Go.Proofs.YtjmdcpcoliljfaaGreatDoor
open Go.ChangeShapes Go.WideShapes Go.ChangeAt Go.RowKit Go.ChangeMaps

set_option maxRecDepth 100000 in
theorem CentreDelayed_lifted (os : Os) (started : os.Started) (H : Type) (enc : TypeId × Value → H) :
    ReturnsInHanded {} Tryz.checked os 10 .any (fun w args => (Rows.centreDelayedSpec.pre enc Tryz.prog Tryz.f10 [] false w args ∧ laidMetH Tryz.prog laid7 w) ∧ sizedMet enc Tryz.prog Tryz.f10 (OpenSpec.ofChange Rows.centreDelayedSpec) false w args) (Rows.centreDelayedSpec.post enc Tryz.prog Tryz.f10 false true false false) := by
  refine Law.lifted laid7 started (by kernel_rfl) Tryz.func10 (by kernel_rfl) (tb := 4) rfl Tryz.underlying4 rfl (fun H ds hl => ?_)
    (ChangeSpec.witness_shaped (enc := enc) (C := Tryz.checked) (os := os) (X := fun w _ => laidMetH Tryz.prog laid7 w) false (World.laidAll Tryz.prog os laid7) #[.agg #[.int .i64 0, .int .i64 0, .int .i64 0, .int .i64 0, .int .i64 0, .int .i64 0, .int .i64 0, .int .i64 0, .int .i64 0, .int .i64 0, .int .i64 0, .int .i64 0, .int .i64 0, .int .i64 0, .int .i64 0, .int .i64 0, .int .i64 0, .int .i64 0], .slice none 0 0, .int .i64 0] 8 (World.laidAll_os _ _ _) (World.shaped_of_ZipB (by kernel_rfl) (by kernel_rfl)) (by kernel_rfl) (by kernel_rfl) (by kernel_rfl) (door_met os _)) ?_
  · match ds, hl with
    | [d0, d1, d2], _ => rfl
  intro W base args ds p hval hA hwt hlt hlaid hsh
  rw [Tryz.params10] at hA hval
  obtain ⟨hks, h0W⟩ := ks_of hlaid
  obtain ⟨v0, v1, v2, d0, d1, d2, p0, p1, p2, rfl, rfl, rfl, h0, h1, h2⟩ := trodAll_three hA
  obtain ⟨S, rfl⟩ := open_setup (hval 0 27 v0 rfl rfl) h0
  obtain ⟨A, n, cA, l, hs, rfl, hI, hn, hc, hnil⟩ := open_inps (hval 1 28 v1 rfl rfl) h1
  obtain ⟨q, rfl, rfl, rfl, _⟩ := open_int Tryz.underlying3 (hval 2 3 v2 rfl rfl) h2
  exact delayed_any S l hs A n cA q W ⟨hks, h0W, hI, ⟨hn, hc⟩, hnil⟩

theorem CentreDelayed_row : Rows.CentreDelayedSaid :=
  OpenClaim.holds_of_wide 10 Tryz.f10 rfl rfl rfl rfl rfl rfl rfl ⟨rfl, rfl, rfl, rfl, rfl⟩ rfl rfl rfl rfl rfl (by kernel_rfl) Tryz.func10 (by kernel_rfl)
    (of_decide_eq_true (by kernel_rfl)) (by unfold Func.isWrapper; rw [if_neg (of_decide_eq_false (by kernel_rfl))]; exact ⟨rfl, rfl⟩)
    (fun os started H enc _ => CentreDelayed_lifted os started H enc)

theorem CentreDelayed_holds : Rows.CentreDelayedCardSaid :=
  Claim7.holds_tied_plain_at .later [] [.data, .data, .pinned] true (true, "b04f4bc368db86cd971aec41a7157e911366481ce75ba95dee482ec0a4a43df3") false
    CentreDelayed_row (fun _ h => by cases h) (by kernel_rfl) (fun _ h => by cases h) centreDelayed_row_tie rfl ⟨rfl, rfl⟩ (by kernel_rfl) rfl
    (fun f fn hf hfn => by
      obtain rfl : f = 10 := Option.some.inj ((show Tryz.prog.funcNamed "skyway/skywaykeep4.CentreDelayed" = some 10 by kernel_rfl).symm.trans hf) |>.symm
      obtain rfl : fn = Tryz.f10 := (Option.some.inj (Tryz.func10.symm.trans hfn)).symm
      exact ⟨by kernel_rfl, fun j t ht => by
        rw [Tryz.params10] at ht
        have hm : t ∈ [27, 28, 3] := by simpa using Array.mem_of_getElem? ht
        have hall : ([27, 28, 3].all fun u => !Tryz.prog.wantsStandIn u) = true := by kernel_rfl
        exact (show Tryz.prog.wantsStandIn t = false by simpa using List.all_eq_true.1 hall t hm)⟩)
    (by kernel_rfl)
end Go.Proofs.YtjmdcpcoliljfaaGreatDoor

