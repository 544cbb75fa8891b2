/- The walk of RulesSorted. -/
import Derived.Test.YtdmecagdjbjgjaaR39
import Derived.Test.YtdmecagdjbjgjaaR38
namespace Go.Proofs.Ytdmecagdjbjgjaa
open Go.RowKit

set_option maxRecDepth 100000 in
set_option maxHeartbeats 16000000 in
theorem Sorted_walk (A : Option Addr) (n c : Nat) (f : Nat → Int) (s : Sc) (w : World) (hA : Sl w w.heap.size 1 A n (fun i => [.int .i64 (f i)])) (hnc : n ≤ c) (hcm : c ≤ maxLen) (hS : s.at_ w w.heap.size) :
    Calls Try.prog 6 #[.slice A n c, s.val] w fun E w' => E = .returned (.bool true) ∧ Below w.heap.size w w' := by
  obtain ⟨w1, hw1⟩ : ∃ W, w.alloc (.cells #[.int .i64 s.tm, .slice s.A s.n s.c, .slice s.B s.m s.d] 25) = W := ⟨_, rfl⟩
  have hb1 : Below w.heap.size w w1 := by rw [← hw1]; exact (Below.refl _ _).alloc (Nat.le_refl _) _
  have hyg : w1.heap[w.heap.size]? = some (.cells #[.int .i64 s.tm, .slice s.A s.n s.c, .slice s.B s.m s.d] 25 (0, 0)) := by rw [← hw1]; exact heap_alloc_new _ _
  have hl0 : w.heap.size < w1.heap.size := by rw [← hw1]; simp
  have HST := Lib.hid (fun W (h : Below w1.heap.size w1 W) => hS.step (hb1.trans (h.mono hb1.size)))
  have HCH := Lib.hid (fun W (h : Below w1.heap.size w1 W) => Check_any s W (hS.step (hb1.trans (h.mono hb1.size))))
  have HFA := Lib.hid fact_any
  have HSV := Lib.hid (several_any A n c f w1 ((hA.below hb1).more hb1.size) hnc hcm)
  have HVV : Hid (s.val = .agg #[.int .i64 s.tm, .slice s.A s.n s.c, .slice s.B s.m s.d]) := Lib.hid rfl
  unfold SevP at HSV
  rw [HVV.out] at HCH ⊢
  clear hA hS
  obtain ⟨g, hg⟩ : ∃ g, w.heap.size = g := ⟨_, rfl⟩
  have HG := Lib.hid hg
  rw [hg] at hyg hl0
  have HB1 := Lib.hid hb1
  have HY := Lib.hid hyg
  clear hb1 hyg
  by_cases hce : checkE s = 0
  · rw [hce] at HCH
    have HAO := Lib.hid (fun A m c Rl AF nm w h1 h2 h3 h4 h5 => All_sev A m c Rl AF nm s w h1 h2 h3 h4 h5 hce)
    rw [HVV.out] at HAO
    clear hce
    go_enter Try.func6, Try.ntmps6
    go_wp2_with (first
      | (go_at_call 14; go_loud (refine HSV.out.mono ?_; rintro E w2 ⟨V, m, cv, Rl, rfl, hm, hl, ho, hr, hb2⟩; obtain ⟨AF, nm, hR⟩ := rules_fn hr; rw [hl] at hR; have HR := Lib.hid hR; have HV2 := Lib.hid (cells_one ho); have HB2 := Lib.hid hb2; have HL := Lib.hid hl; have u2 := (hb2.block g hl0).trans HY.out; have b0 := cell_of_row w2 _ 0 _ 25 (0, 0) u2; have b1 := cell_of_row w2 _ 1 _ 25 (0, 0) u2; have b2 := cell_of_row w2 _ 2 _ 25 (0, 0) u2; simp only [List.getElem?_toArray, List.getElem?_cons_zero, List.getElem?_cons_succ] at b0 b1 b2; clear ho hr hb2 hl hR u2))
      | (go_at_call 16; go_loud (refine (HAO.out V m cv Rl AF nm w2 (fun W h => HST.out W (HB2.out.trans (h.mono HB2.out.size))) HV2.out HL.out (by omega) HR.out).mono ?_; rintro E w3 ⟨⟨V4, cv4, R4, rfl, hal, ho4⟩, hb3⟩; have HAL := Lib.hid hal; have HS4 := Lib.hid (Sl_rows alL_len ho4 rfl (by decide)); have HB3 := Lib.hid (HB2.out.trans (hb3.mono HB2.out.size)); have HV3 := Lib.hid ((HV2.out.below hb3).more hb3.size); have HR3 := Lib.hid (fun i (hi : i < m) => And.intro ((HR.out i hi).1.below hb3) (HR.out i hi).2); have u3 := (HB3.out.block g hl0).trans HY.out; have HY3 := Lib.hid u3; clear hal ho4 hb3 u3 b0 b1 b2)))
    obtain ⟨wb, rfl⟩ : ∃ wb, wb = w3 := ⟨_, rfl⟩
    have hgb : g < wb.heap.size := (Array.getElem?_eq_some_iff.1 HY3.out).1
    have HNB := Lib.hid (AllL_nb HAL.out)
    have HME := Lib.hid (fun x => (AllL_mem HAL.out x).trans (flA_mem m))
    have hq4 : R4.length ≤ 20000 := by
      obtain ⟨S, hp, _, e⟩ := HAL.out
      have h1 := ddN_len (fun i => S[i]!) S.length
      have h2 := hp.length_eq
      have h3 := flA_len (LL := fun i => AF i s) (B := 1024) m (fun i hi => (HR3.out i hi).2.len s)
      rw [e]
      omega
    obtain ⟨q, hq⟩ : ∃ q, R4.length = q := ⟨_, rfl⟩
    rw [hq] at HS4 hq4 ⊢
    have HQ4 := Lib.hid hq
    have hm0 : (0 : Int) ≤ (m : Int) := by omega
    have hq0 : (0 : Int) ≤ (q : Int) := by omega
    have HSTb := Lib.hid (fun W (h : Below wb.heap.size wb W) => HST.out W (HB3.out.trans (h.mono HB3.out.size)))
    clear hq HAO HSV HR HV2 HB2 HAL HCH
    go_loopw [38] (fun x wr => ∃ k : Nat, k ≤ q ∧ x = .int .i64 (k : Int) ∧ Hid (Below wb.heap.size wb wr)) (fun x _ => q - (intOf x).toNat)
    case atStart => exact ⟨0, by omega, rfl, Lib.hid (Below.refl _ _)⟩
    case round =>
      obtain ⟨k, hk, rfl, HB⟩ := hrel
      have hzr := HB.out.size
      by_cases hlt : k < q
      · obtain ⟨b4, o4, rfl, hb4, hr4⟩ := HS4.out (by omega)
        have hcs : ∀ j, j < q → ∀ t v, (alL R4[j]!)[t]? = some v → wr.cell? ⟨b4, o4 + j * 4 + t, none⟩ = some v := fun j hj t v hv => (HB.out.cell (p := ⟨b4, o4 + j * 4 + t, none⟩) hb4).trans (hr4 j hj t v hv)
        have hmem : R4[k]! ∈ R4 := by rw [getElem!_pos R4 k (by rw [HQ4.out]; exact hlt)]; exact List.getElem_mem _
        have hex := (HME.out _).1 hmem
        have hck := hcs k hlt
        have HPV : Hid (∀ k2, k = k2 + 1 → (R4[k]! ≠ R4[k2]! ∧ R4[k]!.l ≤ R4[k2]!.l) ∧ ∀ t v, (alL R4[k2]!)[t]? = some v → wr.cell? ⟨b4, o4 + k2 * 4 + t, none⟩ = some v) := Lib.hid (fun k2 e => ⟨by have := HNB.out k2 (by rw [HQ4.out]; omega); rw [e]; exact this, hcs k2 (by omega)⟩)
        have HRC := Lib.hid (fun W (h : Below wr.heap.size wr W) p hp => rules_contain V m cv Rl AF nm s R4[k]! g p W (((HV3.out.below (HB.out.trans (h.mono hzr))).more (HB.out.trans (h.mono hzr)).size)) (by omega) (fun i hi => And.intro ((HR3.out i hi).1.below (HB.out.trans (h.mono hzr))) (HR3.out i hi).2) (fun W' h' => HSTb.out W' ((HB.out.trans (h.mono hzr)).trans (h'.mono (HB.out.trans (h.mono hzr)).size))) (((HB.out.trans (h.mono hzr)).block g hgb).trans HY3.out) hp hex)
        have HEQ := Lib.hid (fun y W => run_eqA R4[k]! y W)
        generalize R4[k]! = a at *
        obtain ⟨x1, x2, x3, x4⟩ := a
        dsimp only at HEQ HRC HPV
        have e0 : wr.cell? ⟨b4, o4 + k * 4, none⟩ = some (.string x1) := hck 0 _ rfl
        have e1 : wr.cell? ⟨b4, o4 + k * 4 + 1, none⟩ = some (.int .i64 x2) := hck 1 _ rfl
        have e2 : wr.cell? ⟨b4, o4 + k * 4 + 2, none⟩ = some (.int .i64 x3) := hck 2 _ rfl
        have e3 : wr.cell? ⟨b4, o4 + k * 4 + 3, none⟩ = some (.int .i64 x4) := hck 3 _ rfl
        have l1 : (k : Int) < (q : Int) := by omega
        have l0 : (0 : Int) ≤ (k : Int) := by omega
        have hwk : IntKind.i64.wrap ((k : Int) + 1) = (k : Int) + 1 := IntWalk.i64_in _ (by omega)
        obtain ⟨wx, hwx⟩ : ∃ W, wr.alloc (.cells #[.string x1, .int .i64 x2, .int .i64 x3, .int .i64 x4] 51) = W := ⟨_, rfl⟩
        have hbx : Below wr.heap.size wr wx := by rw [← hwx]; exact (Below.refl _ _).alloc (Nat.le_refl _) _
        have hyx : wx.heap[wr.heap.size]? = some (.cells #[.string x1, .int .i64 x2, .int .i64 x3, .int .i64 x4] 51 (0, 0)) := by rw [← hwx]; exact heap_alloc_new _ _
        have hlx : wr.heap.size < wx.heap.size := by rw [← hwx]; simp
        have hb4x : b4 < wx.heap.size := by omega
        have HXx := Lib.hid hyx
        have HBX := Lib.hid hbx
        have HCx := Lib.hid (fun t v (h : wr.cell? ⟨b4, t, none⟩ = some v) => (hbx.cell (p := ⟨b4, t, none⟩) (show b4 < wr.heap.size by omega)).trans h)
        obtain ⟨p, hp⟩ : ∃ p, wr.heap.size = p := ⟨_, rfl⟩
        rw [hp] at HXx hlx
        have hpx : p < wx.heap.size := hlx
        have HRD := Lib.hid (HRC.out wx.drew HBX.out.drew p HXx.out)
        clear hcs hck hr4 hmem hex hbx hyx HRC
        rcases Nat.eq_zero_or_pos k with hk0 | hk0
        · subst hk0
          rw [show ((0 : Nat) : Int) = 0 from rfl] at *
          simp only [Nat.zero_mul, Nat.add_zero] at e0 e1 e2 e3
          go_wp2
          refine wp_region_held_drew (S := (fun W => Below wx.heap.size wx W)) (by kernel_rfl) ((Below.refl _ _).drew) (fun hHeld => ?_)
          refine wpAnyH_take (i := 0) (oi := ⟨some 43, _, _, _, _, _⟩) (v := ?pv0) rfl (by kernel_rfl) (by kernel_rfl) (by kernel_rfl) (fun _ _ _ h => h) (Or.inl ⟨by rfl, ?py0⟩) hHeld ?pr0
          case py0 => (intro W hSw; (try dsimp only at hSw); go_simp; try with_reducible rfl)
          try simp only [Act.put, List.setIfInBounds_toArray, List.set_cons_zero, List.set_cons_succ]
          refine wpAnyH_take (i := 1) (oi := ⟨some 44, _, _, _, _, _⟩) (v := ?pv1) rfl (by kernel_rfl) (by kernel_rfl) (by kernel_rfl) (fun _ _ _ h => h) (Or.inl ⟨by rfl, ?py1⟩) hHeld ?pr1
          case py1 => (intro W hSw; (try dsimp only at hSw); go_simp; try with_reducible rfl)
          try simp only [Act.put, List.setIfInBounds_toArray, List.set_cons_zero, List.set_cons_succ]
          refine wpAnyH_take (i := 2) (oi := ⟨some 45, _, _, _, _, _⟩) (v := ?pv2) rfl (by kernel_rfl) (by kernel_rfl) (by kernel_rfl) (fun _ _ _ h => h) (Or.inl ⟨by rfl, ?py2⟩) hHeld ?pr2
          case py2 => (intro W hSw; (try dsimp only at hSw); go_simp; try with_reducible rfl)
          try simp only [Act.put, List.setIfInBounds_toArray, List.set_cons_zero, List.set_cons_succ]
          refine wpAnyH_take (i := 3) (oi := ⟨some 46, _, _, _, _, _⟩) (v := undef) rfl (by kernel_rfl) (by kernel_rfl) (by kernel_rfl) (fun _ _ _ h => h) (Or.inr ⟨by rfl, rfl⟩) hHeld ?_
          try simp only [Act.put, List.setIfInBounds_toArray, List.set_cons_zero, List.set_cons_succ]
          refine wpAnyH_take (i := 4) (oi := ⟨some 47, _, _, _, _, _⟩) (v := undef) rfl (by kernel_rfl) (by kernel_rfl) (by kernel_rfl) (fun _ _ _ h => h) (Or.inr ⟨by rfl, rfl⟩) hHeld ?_
          try simp only [Act.put, List.setIfInBounds_toArray, List.set_cons_zero, List.set_cons_succ]
          refine wpAnyH_take (i := 5) (oi := ⟨some 48, _, _, _, _, _⟩) (v := undef) rfl (by kernel_rfl) (by kernel_rfl) (by kernel_rfl) (fun _ _ _ h => h) (Or.inr ⟨by rfl, rfl⟩) hHeld ?_
          try simp only [Act.put, List.setIfInBounds_toArray, List.set_cons_zero, List.set_cons_succ]
          refine wpAnyH_take (i := 6) (oi := ⟨some 49, _, _, _, _, _⟩) (v := undef) rfl (by kernel_rfl) (by kernel_rfl) (by kernel_rfl) (fun _ _ _ h => h) (Or.inr ⟨by rfl, rfl⟩) hHeld ?_
          try simp only [Act.put, List.setIfInBounds_toArray, List.set_cons_zero, List.set_cons_succ]
          refine wpAnyH_take (i := 7) (oi := ⟨some 50, _, _, _, _, _⟩) (v := undef) rfl (by kernel_rfl) (by kernel_rfl) (by kernel_rfl) (fun _ _ _ h => h) (Or.inr ⟨by rfl, rfl⟩) hHeld ?_
          try simp only [Act.put, List.setIfInBounds_toArray, List.set_cons_zero, List.set_cons_succ]
          refine wpAnyH_take (i := 8) (oi := ⟨some 51, _, _, _, _, _⟩) (v := undef) rfl (by kernel_rfl) (by kernel_rfl) (by kernel_rfl) (fun _ _ _ h => h) (Or.inr ⟨by rfl, rfl⟩) hHeld ?_
          try simp only [Act.put, List.setIfInBounds_toArray, List.set_cons_zero, List.set_cons_succ]
          refine wpAnyH_take (i := 9) (oi := ⟨some 52, _, _, _, _, _⟩) (v := undef) rfl (by kernel_rfl) (by kernel_rfl) (by kernel_rfl) (fun _ _ _ h => h) (Or.inr ⟨by rfl, rfl⟩) hHeld ?_
          try simp only [Act.put, List.setIfInBounds_toArray, List.set_cons_zero, List.set_cons_succ]
          refine wpAnyH_take (i := 10) (oi := ⟨some 53, _, _, _, _, _⟩) (v := undef) rfl (by kernel_rfl) (by kernel_rfl) (by kernel_rfl) (fun _ _ _ h => h) (Or.inr ⟨by rfl, rfl⟩) hHeld ?_
          try simp only [Act.put, List.setIfInBounds_toArray, List.set_cons_zero, List.set_cons_succ]
          refine wpAnyH_take (i := 11) (oi := ⟨some 54, _, _, _, _, _⟩) (v := undef) rfl (by kernel_rfl) (by kernel_rfl) (by kernel_rfl) (fun _ _ _ h => h) (Or.inr ⟨by rfl, rfl⟩) hHeld ?_
          try simp only [Act.put, List.setIfInBounds_toArray, List.set_cons_zero, List.set_cons_succ]
          refine wpAnyH_take (i := 12) (oi := ⟨some 55, _, _, _, _, _⟩) (v := undef) rfl (by kernel_rfl) (by kernel_rfl) (by kernel_rfl) (fun _ _ _ h => h) (Or.inr ⟨by rfl, rfl⟩) hHeld ?_
          try simp only [Act.put, List.setIfInBounds_toArray, List.set_cons_zero, List.set_cons_succ]
          refine wpAnyH_take (i := 13) (oi := ⟨some 56, _, _, _, _, _⟩) (v := undef) rfl (by kernel_rfl) (by kernel_rfl) (by kernel_rfl) (fun _ _ _ h => h) (Or.inr ⟨by rfl, rfl⟩) hHeld ?_
          try simp only [Act.put, List.setIfInBounds_toArray, List.set_cons_zero, List.set_cons_succ]
          refine wpAnyH_take (i := 14) (oi := ⟨some 57, _, _, _, _, _⟩) (v := undef) rfl (by kernel_rfl) (by kernel_rfl) (by kernel_rfl) (fun _ _ _ h => h) (Or.inr ⟨by rfl, rfl⟩) hHeld ?_
          try simp only [Act.put, List.setIfInBounds_toArray, List.set_cons_zero, List.set_cons_succ]
          refine wpAnyH_take (i := 15) (oi := ⟨some 58, _, _, _, _, _⟩) (v := undef) rfl (by kernel_rfl) (by kernel_rfl) (by kernel_rfl) (fun _ _ _ h => h) (Or.inr ⟨by rfl, rfl⟩) hHeld ?_
          try simp only [Act.put, List.setIfInBounds_toArray, List.set_cons_zero, List.set_cons_succ]
          refine wpAnyH_take (i := 16) (oi := ⟨some 59, _, _, _, _, _⟩) (v := undef) rfl (by kernel_rfl) (by kernel_rfl) (by kernel_rfl) (fun _ _ _ h => h) (Or.inr ⟨by rfl, rfl⟩) hHeld ?_
          try simp only [Act.put, List.setIfInBounds_toArray, List.set_cons_zero, List.set_cons_succ]
          refine wpAnyH_take (i := 17) (oi := ⟨some 60, _, _, _, _, _⟩) (v := undef) rfl (by kernel_rfl) (by kernel_rfl) (by kernel_rfl) (fun _ _ _ h => h) (Or.inr ⟨by rfl, rfl⟩) hHeld ?_
          try simp only [Act.put, List.setIfInBounds_toArray, List.set_cons_zero, List.set_cons_succ]
          refine wpAnyH_take (i := 18) (oi := ⟨some 61, _, _, _, _, _⟩) (v := undef) rfl (by kernel_rfl) (by kernel_rfl) (by kernel_rfl) (fun _ _ _ h => h) (Or.inr ⟨by rfl, rfl⟩) hHeld ?_
          try simp only [Act.put, List.setIfInBounds_toArray, List.set_cons_zero, List.set_cons_succ]
          refine wpAnyH_take (i := 19) (oi := ⟨some 62, _, _, _, _, _⟩) (v := undef) rfl (by kernel_rfl) (by kernel_rfl) (by kernel_rfl) (fun _ _ _ h => h) (Or.inr ⟨by rfl, rfl⟩) hHeld ?_
          try simp only [Act.put, List.setIfInBounds_toArray, List.set_cons_zero, List.set_cons_succ]
          refine wpAnyH_take (i := 20) (oi := ⟨some 63, _, _, _, _, _⟩) (v := undef) rfl (by kernel_rfl) (by kernel_rfl) (by kernel_rfl) (fun _ _ _ h => h) (Or.inr ⟨by rfl, rfl⟩) hHeld ?_
          try simp only [Act.put, List.setIfInBounds_toArray, List.set_cons_zero, List.set_cons_succ]
          refine wpAnyH_take (i := 21) (oi := ⟨some 64, _, _, _, _, _⟩) (v := ?pv21) rfl (by kernel_rfl) (by kernel_rfl) (by kernel_rfl) (fun _ _ _ h => h) (Or.inl ⟨by rfl, ?py21⟩) hHeld ?pr21
          case py21 => (intro W hSw; (try dsimp only at hSw); go_simp; try with_reducible rfl)
          try simp only [Act.put, List.setIfInBounds_toArray, List.set_cons_zero, List.set_cons_succ]
          refine wpAnyH_done (by kernel_rfl) ?_ _
          clear hHeld
          go_wp2_with (go_at_call 18; go_loud (refine HRD.out.mono ?_; rintro E w6 ⟨rfl, hb6⟩; have HB6 := Lib.hid (HB.out.trans ((HBX.out.drew.trans (hb6.mono HBX.out.drew.size)).mono hzr)); clear hb6))
          go_roundw
          case rel => exact ⟨1, by omega, by first | rfl | go_num, HB6⟩
          case measure => simp [intOf]; omega
        · obtain ⟨k2, hk2⟩ : ∃ k2, k = k2 + 1 := ⟨k - 1, by omega⟩
          obtain ⟨⟨hne, hle⟩, hpc⟩ := HPV.out k2 hk2
          have hbe := HEQ.out R4[k2]!
          rw [decide_eq_false hne] at hbe
          generalize R4[k2]! = y at *
          obtain ⟨y1, y2, y3, y4⟩ := y
          dsimp only at hbe hle
          have HQ0 := Lib.hid (HCx.out _ _ (hpc 0 _ rfl))
          have HQ1 := Lib.hid (HCx.out _ _ (hpc 1 _ rfl))
          have HQ2 := Lib.hid (HCx.out _ _ (hpc 2 _ rfl))
          have HQ3 := Lib.hid (HCx.out _ _ (hpc 3 _ rfl))
          have t1 : decide ((0 : Int) < (k : Int)) = true := decide_eq_true (by omega)
          have t2 : decide (y2 < x2) = false := decide_eq_false (by omega)
          have hwp : IntKind.i64.wrap ((k : Int) - 1) = (k2 : Int) := by rw [IntWalk.i64_in _ (by omega)]; omega
          have k20 : (0 : Int) ≤ (k2 : Int) := by omega
          have k2q : (k2 : Int) < (q : Int) := by omega
          clear hne hle hpc hk2
          go_wp2
          refine wp_region_held_drew (S := (fun W => Below wx.heap.size wx W)) (by kernel_rfl) ((Below.refl _ _).drew) (fun hHeld => ?_)
          refine wpAnyH_take (i := 0) (oi := ⟨some 43, _, _, _, _, _⟩) (v := ?qv0) rfl (by kernel_rfl) (by kernel_rfl) (by kernel_rfl) (fun _ _ _ h => h) (Or.inl ⟨by rfl, ?qy0⟩) hHeld ?qr0
          case qy0 => (intro W hSw; (try dsimp only at hSw); go_simp; try with_reducible rfl)
          try simp only [Act.put, List.setIfInBounds_toArray, List.set_cons_zero, List.set_cons_succ]
          refine wpAnyH_take (i := 1) (oi := ⟨some 44, _, _, _, _, _⟩) (v := ?qv1) rfl (by kernel_rfl) (by kernel_rfl) (by kernel_rfl) (fun _ _ _ h => h) (Or.inl ⟨by rfl, ?qy1⟩) hHeld ?qr1
          case qy1 => (intro W hSw; (try dsimp only at hSw); go_simp; try with_reducible rfl)
          try simp only [Act.put, List.setIfInBounds_toArray, List.set_cons_zero, List.set_cons_succ]
          refine wpAnyH_take (i := 2) (oi := ⟨some 45, _, _, _, _, _⟩) (v := ?qv2) rfl (by kernel_rfl) (by kernel_rfl) (by kernel_rfl) (fun _ _ _ h => h) (Or.inl ⟨by rfl, ?qy2⟩) hHeld ?qr2
          case qy2 => (intro W hSw; (try dsimp only at hSw); go_simp; try with_reducible rfl)
          try simp only [Act.put, List.setIfInBounds_toArray, List.set_cons_zero, List.set_cons_succ]
          refine wpAnyH_take (i := 3) (oi := ⟨some 46, _, _, _, _, _⟩) (v := ?qv3) rfl (by kernel_rfl) (by kernel_rfl) (by kernel_rfl) (fun _ _ _ h => h) (Or.inl ⟨by rfl, ?qy3⟩) hHeld ?qr3
          case qy3 => (intro W hSw; (try dsimp only at hSw); go_simp; try with_reducible rfl)
          try simp only [Act.put, List.setIfInBounds_toArray, List.set_cons_zero, List.set_cons_succ]
          refine wpAnyH_take (i := 4) (oi := ⟨some 47, _, _, _, _, _⟩) (v := ?qv4) rfl (by kernel_rfl) (by kernel_rfl) (by kernel_rfl) (fun _ _ _ h => h) (Or.inl ⟨by rfl, ?qy4⟩) hHeld ?qr4
          case qy4 => (intro W hSw; (try dsimp only at hSw); have f0 := (hSw.cell (p := ⟨p, 1, none⟩) hpx).trans (cell_of_row wx p 1 _ 51 (0, 0) HXx.out); go_simp; try with_reducible rfl)
          try simp only [Act.put, List.setIfInBounds_toArray, List.set_cons_zero, List.set_cons_succ]
          refine wpAnyH_take (i := 5) (oi := ⟨some 48, _, _, _, _, _⟩) (v := ?qv5) rfl (by kernel_rfl) (by kernel_rfl) (by kernel_rfl) (fun _ _ _ h => h) (Or.inl ⟨by rfl, ?qy5⟩) hHeld ?qr5
          case qy5 => (intro W hSw; (try dsimp only at hSw); go_simp; try with_reducible rfl)
          try simp only [Act.put, List.setIfInBounds_toArray, List.set_cons_zero, List.set_cons_succ]
          refine wpAnyH_take (i := 6) (oi := ⟨some 49, _, _, _, _, _⟩) (v := ?qv6) rfl (by kernel_rfl) (by kernel_rfl) (by kernel_rfl) (fun _ _ _ h => h) (Or.inl ⟨by rfl, ?qy6⟩) hHeld ?qr6
          case qy6 => (intro W hSw; (try dsimp only at hSw); go_simp; try with_reducible rfl)
          try simp only [Act.put, List.setIfInBounds_toArray, List.set_cons_zero, List.set_cons_succ]
          refine wpAnyH_take (i := 7) (oi := ⟨some 50, _, _, _, _, _⟩) (v := ?qv7) rfl (by kernel_rfl) (by kernel_rfl) (by kernel_rfl) (fun _ _ _ h => h) (Or.inl ⟨by rfl, ?qy7⟩) hHeld ?qr7
          case qy7 => (intro W hSw; (try dsimp only at hSw); go_simp; try with_reducible rfl)
          try simp only [Act.put, List.setIfInBounds_toArray, List.set_cons_zero, List.set_cons_succ]
          refine wpAnyH_take (i := 8) (oi := ⟨some 51, _, _, _, _, _⟩) (v := ?qv8) rfl (by kernel_rfl) (by kernel_rfl) (by kernel_rfl) (fun _ _ _ h => h) (Or.inl ⟨by rfl, ?qy8⟩) hHeld ?qr8
          case qy8 => (intro W hSw; (try dsimp only at hSw); go_simp; try with_reducible rfl)
          try simp only [Act.put, List.setIfInBounds_toArray, List.set_cons_zero, List.set_cons_succ]
          refine wpAnyH_take (i := 9) (oi := ⟨some 52, _, _, _, _, _⟩) (v := ?qv9) rfl (by kernel_rfl) (by kernel_rfl) (by kernel_rfl) (fun _ _ _ h => h) (Or.inl ⟨by rfl, ?qy9⟩) hHeld ?qr9
          case qy9 => (intro W hSw; (try dsimp only at hSw); go_simp; try with_reducible rfl)
          try simp only [Act.put, List.setIfInBounds_toArray, List.set_cons_zero, List.set_cons_succ]
          refine wpAnyH_take (i := 10) (oi := ⟨some 53, _, _, _, _, _⟩) (v := ?qv10) rfl (by kernel_rfl) (by kernel_rfl) (by kernel_rfl) (fun _ _ _ h => h) (Or.inl ⟨by rfl, ?qy10⟩) hHeld ?qr10
          case qy10 => (intro W hSw; (try dsimp only at hSw); have f0 := (hSw.cell (p := ⟨b4, o4 + k2 * 4 + 1, none⟩) hb4x).trans (HQ1.out); go_simp; try with_reducible rfl)
          try simp only [Act.put, List.setIfInBounds_toArray, List.set_cons_zero, List.set_cons_succ]
          refine wpAnyH_take (i := 11) (oi := ⟨some 54, _, _, _, _, _⟩) (v := ?qv11) rfl (by kernel_rfl) (by kernel_rfl) (by kernel_rfl) (fun _ _ _ h => h) (Or.inl ⟨by rfl, ?qy11⟩) hHeld ?qr11
          case qy11 => (intro W hSw; (try dsimp only at hSw); go_simp; try with_reducible rfl)
          try simp only [Act.put, List.setIfInBounds_toArray, List.set_cons_zero, List.set_cons_succ]
          refine wpAnyH_take (i := 12) (oi := ⟨some 55, _, _, _, _, _⟩) (v := ?qv12) rfl (by kernel_rfl) (by kernel_rfl) (by kernel_rfl) (fun _ _ _ h => h) (Or.inl ⟨by rfl, ?qy12⟩) hHeld ?qr12
          case qy12 => (intro W hSw; (try dsimp only at hSw); go_simp; try with_reducible rfl)
          try simp only [Act.put, List.setIfInBounds_toArray, List.set_cons_zero, List.set_cons_succ]
          refine wpAnyH_take (i := 13) (oi := ⟨some 56, _, _, _, _, _⟩) (v := ?qv13) rfl (by kernel_rfl) (by kernel_rfl) (by kernel_rfl) (fun _ _ _ h => h) (Or.inl ⟨by rfl, ?qy13⟩) hHeld ?qr13
          case qy13 => (intro W hSw; (try dsimp only at hSw); have f0 := (hSw.cell (p := ⟨p, 0, none⟩) hpx).trans (cell_of_row wx p 0 _ 51 (0, 0) HXx.out); have f1 := (hSw.cell (p := ⟨p, 1, none⟩) hpx).trans (cell_of_row wx p 1 _ 51 (0, 0) HXx.out); have f2 := (hSw.cell (p := ⟨p, 2, none⟩) hpx).trans (cell_of_row wx p 2 _ 51 (0, 0) HXx.out); have f3 := (hSw.cell (p := ⟨p, 3, none⟩) hpx).trans (cell_of_row wx p 3 _ 51 (0, 0) HXx.out); go_simp; try with_reducible rfl)
          try simp only [Act.put, List.setIfInBounds_toArray, List.set_cons_zero, List.set_cons_succ]
          refine wpAnyH_take (i := 14) (oi := ⟨some 57, _, _, _, _, _⟩) (v := ?qv14) rfl (by kernel_rfl) (by kernel_rfl) (by kernel_rfl) (fun _ _ _ h => h) (Or.inl ⟨by rfl, ?qy14⟩) hHeld ?qr14
          case qy14 => (intro W hSw; (try dsimp only at hSw); go_simp; try with_reducible rfl)
          try simp only [Act.put, List.setIfInBounds_toArray, List.set_cons_zero, List.set_cons_succ]
          refine wpAnyH_take (i := 15) (oi := ⟨some 58, _, _, _, _, _⟩) (v := ?qv15) rfl (by kernel_rfl) (by kernel_rfl) (by kernel_rfl) (fun _ _ _ h => h) (Or.inl ⟨by rfl, ?qy15⟩) hHeld ?qr15
          case qy15 => (intro W hSw; (try dsimp only at hSw); go_simp; try with_reducible rfl)
          try simp only [Act.put, List.setIfInBounds_toArray, List.set_cons_zero, List.set_cons_succ]
          refine wpAnyH_take (i := 16) (oi := ⟨some 59, _, _, _, _, _⟩) (v := ?qv16) rfl (by kernel_rfl) (by kernel_rfl) (by kernel_rfl) (fun _ _ _ h => h) (Or.inl ⟨by rfl, ?qy16⟩) hHeld ?qr16
          case qy16 => (intro W hSw; (try dsimp only at hSw); go_simp; try with_reducible rfl)
          try simp only [Act.put, List.setIfInBounds_toArray, List.set_cons_zero, List.set_cons_succ]
          refine wpAnyH_take (i := 17) (oi := ⟨some 60, _, _, _, _, _⟩) (v := ?qv17) rfl (by kernel_rfl) (by kernel_rfl) (by kernel_rfl) (fun _ _ _ h => h) (Or.inl ⟨by rfl, ?qy17⟩) hHeld ?qr17
          case qy17 => (intro W hSw; (try dsimp only at hSw); go_simp; try with_reducible rfl)
          try simp only [Act.put, List.setIfInBounds_toArray, List.set_cons_zero, List.set_cons_succ]
          refine wpAnyH_take (i := 18) (oi := ⟨some 61, _, _, _, _, _⟩) (v := ?qv18) rfl (by kernel_rfl) (by kernel_rfl) (by kernel_rfl) (fun _ _ _ h => h) (Or.inl ⟨by rfl, ?qy18⟩) hHeld ?qr18
          case qy18 => (intro W hSw; (try dsimp only at hSw); have f0 := (hSw.cell (p := ⟨b4, o4 + k2 * 4, none⟩) hb4x).trans (HQ0.out); have f1 := (hSw.cell (p := ⟨b4, o4 + k2 * 4 + 1, none⟩) hb4x).trans (HQ1.out); have f2 := (hSw.cell (p := ⟨b4, o4 + k2 * 4 + 2, none⟩) hb4x).trans (HQ2.out); have f3 := (hSw.cell (p := ⟨b4, o4 + k2 * 4 + 3, none⟩) hb4x).trans (HQ3.out); go_simp; try with_reducible rfl)
          try simp only [Act.put, List.setIfInBounds_toArray, List.set_cons_zero, List.set_cons_succ]
          refine wpAnyH_take (i := 19) (oi := ⟨some 62, _, _, _, _, _⟩) (v := ?qv19) rfl (by kernel_rfl) (by kernel_rfl) (by kernel_rfl) (fun _ _ _ h => h) (Or.inl ⟨by rfl, ?qy19⟩) hHeld ?qr19
          case qy19 => (intro W hSw; (try dsimp only at hSw); go_simp; try with_reducible rfl)
          try simp only [Act.put, List.setIfInBounds_toArray, List.set_cons_zero, List.set_cons_succ]
          refine wpAnyH_take (i := 20) (oi := ⟨some 63, _, _, _, _, _⟩) (v := ?qv20) rfl (by kernel_rfl) (by kernel_rfl) (by kernel_rfl) (fun _ _ _ h => h) (Or.inl ⟨by rfl, ?qy20⟩) hHeld ?qr20
          case qy20 => (intro W hSw; (try dsimp only at hSw); go_simp; try with_reducible rfl)
          try simp only [Act.put, List.setIfInBounds_toArray, List.set_cons_zero, List.set_cons_succ]
          refine wpAnyH_take (i := 21) (oi := ⟨some 64, _, _, _, _, _⟩) (v := ?qv21) rfl (by kernel_rfl) (by kernel_rfl) (by kernel_rfl) (fun _ _ _ h => h) (Or.inl ⟨by rfl, ?qy21⟩) hHeld ?qr21
          case qy21 => (intro W hSw; (try dsimp only at hSw); go_simp; try with_reducible rfl)
          try simp only [Act.put, List.setIfInBounds_toArray, List.set_cons_zero, List.set_cons_succ]
          refine wpAnyH_done (by kernel_rfl) ?_ _
          clear hHeld
          go_wp2_with (go_at_call 18; go_loud (refine HRD.out.mono ?_; rintro E w6 ⟨rfl, hb6⟩; have HB6 := Lib.hid (HB.out.trans ((HBX.out.drew.trans (hb6.mono HBX.out.drew.size)).mono hzr)); clear hb6))
          go_roundw
          case rel => exact ⟨k + 1, by omega, by go_num, HB6⟩
          case measure => simp [intOf]; omega
      · obtain rfl : q = k := by omega
        obtain ⟨wo, rfl⟩ : ∃ wo, wo = wr := ⟨_, rfl⟩
        have HV4 := Lib.hid ((HV3.out.below HB.out).more hzr)
        have HR4 := Lib.hid (fun i (hi : i < m) => And.intro ((HR3.out i hi).1.below HB.out) (HR3.out i hi).2)
        have HS5 := Lib.hid ((HS4.out.below HB.out).more hzr)
        have HY4 := Lib.hid ((HB.out.block g hgb).trans HY3.out)
        have hgo : g < wo.heap.size := by omega
        have HSTo := Lib.hid (fun W (h : Below wo.heap.size wo W) => HSTb.out W (HB.out.trans (h.mono hzr)))
        have HBo := Lib.hid (HB1.out.trans ((HB3.out.trans (HB.out.mono HB3.out.size)).mono HB1.out.size))
        clear HV3 HR3 HS4 HY3 HSTb HST
        go_wp2
        go_loopw [72] (fun x wr => ∃ j : Nat, j ≤ m ∧ x = .int .i64 (j : Int) ∧ Hid (Below wo.heap.size wo wr)) (fun x _ => m - (intOf x).toNat)
        case atStart => exact ⟨0, by omega, rfl, Lib.hid (Below.refl _ _)⟩
        case round =>
          obtain ⟨j, hj, rfl, HB⟩ := hrel
          have hzr := HB.out.size
          by_cases hlt : j < m
          · obtain ⟨bv, ov, rfl, hbv, hrv⟩ := HV4.out (by omega)
            have d0 : wr.cell? ⟨bv, ov + j, none⟩ = some Rl[j]! := (HB.out.cell (p := ⟨bv, ov + j, none⟩) hbv).trans (by have := hrv j hlt 0 _ rfl; rwa [Nat.mul_one, Nat.add_zero] at this)
            obtain ⟨hG, hgood⟩ := HR4.out j hlt
            have hGr := hG.below HB.out
            have hlen := hgood.len s
            have HNM := Lib.hid (hgood.name s)
            have HMM := Lib.hid (fun x (hx : x ∈ AF j s) => (HME.out x).2 ⟨j, hlt, hx⟩)
            have yg := (HB.out.block g hgo).trans HY4.out
            have p0 := cell_of_row wr _ 0 _ 25 (0, 0) yg
            have p1 := cell_of_row wr _ 1 _ 25 (0, 0) yg
            have p2 := cell_of_row wr _ 2 _ 25 (0, 0) yg
            simp only [List.getElem?_toArray, List.getElem?_cons_zero, List.getElem?_cons_succ] at p0 p1 p2
            have l1 : (j : Int) < (m : Int) := by omega
            have l0 : (0 : Int) ≤ (j : Int) := by omega
            have hwj : IntKind.i64.wrap ((j : Int) + 1) = (j : Int) + 1 := IntWalk.i64_in _ (by omega)
            obtain ⟨L, hL⟩ : ∃ L, AF j s = L := ⟨_, rfl⟩
            rw [hL] at hlen HNM HMM
            generalize nm j = t at *
            generalize Rl[j]! = r at *
            obtain ⟨qL, hqL⟩ : ∃ qL, L.length = qL := ⟨_, rfl⟩
            have HQL := Lib.hid hqL
            rw [hqL] at hlen
            obtain ⟨wz, rfl⟩ : ∃ wz, wz = wr := ⟨_, rfl⟩
            have HGr := Lib.hid hGr
            have hqL0 : (0 : Int) ≤ (qL : Int) := by omega
            clear hG hgood yg hrv hGr
            rcases HGr.out with ⟨lv, c1, c2, rfl, hcl⟩ | ⟨lv, c1, c2, rfl, hcl⟩
            · have HAL := Lib.hid (hcl s wz (Below.refl _ _) (HSTo.out wz HB.out))
              rw [HVV.out, hL] at HAL
              unfold AlsP at HAL
              rw [hqL] at HAL
              clear hcl HGr hL hqL
              go_wp2_with (first
                | (go_at_call 106; go_loud (refine HAL.out.mono ?_; rintro E w5 ⟨⟨V5, cv5, rfl, ho5⟩, hb5⟩; have HS6 := Lib.hid (Sl_rows alL_len ho5 HQL.out (by decide)); have HB5 := Lib.hid (HB.out.trans (hb5.mono hzr)); clear ho5 hb5))
                | (go_at_call 108; go_loud (refine HAL.out.mono ?_; rintro E w5 ⟨⟨V5, cv5, rfl, ho5⟩, hb5⟩; have HS6 := Lib.hid (Sl_rows alL_len ho5 HQL.out (by decide)); have HB5 := Lib.hid (HB.out.trans (hb5.mono hzr)); clear ho5 hb5)))
              obtain ⟨w6, rfl⟩ : ∃ w6, w6 = w5 := ⟨_, rfl⟩
              have hz56 : wo.heap.size ≤ w6.heap.size := HB5.out.size
              clear p0 p1 p2 d0
              go_loopw [80] (fun x wr => ∃ i : Nat, i ≤ qL ∧ x = .int .i64 (i : Int) ∧ Hid (Below w6.heap.size w6 wr)) (fun x _ => qL - (intOf x).toNat)
              case atStart => exact ⟨0, by omega, rfl, Lib.hid (Below.refl _ _)⟩
              case round =>
                obtain ⟨i, hi, rfl, HB6⟩ := hrel
                have hz6 := HB6.out.size
                by_cases hlt2 : i < qL
                · obtain ⟨bb, off, rfl, hbb, hr⟩ := HS6.out (by omega)
                  have hcs : ∀ u v, (alL L[i]!)[u]? = some v → wr.cell? ⟨bb, off + i * 4 + u, none⟩ = some v := fun u v hv => (HB6.out.cell (p := ⟨bb, off + i * 4 + u, none⟩) hbb).trans (hr i hlt2 u v hv)
                  have hmem : L[i]! ∈ L := by rw [getElem!_pos L i (by rw [HQL.out]; exact hlt2)]; exact List.getElem_mem _
                  have hname := HNM.out _ hmem
                  have hin := HMM.out _ hmem
                  have HCA := Lib.hid (fun W hs => Contains_any V4 q cv4 R4 L[i]! W hs HQ4.out (by omega))
                  rw [decide_eq_true hin] at HCA
                  generalize L[i]! = a at *
                  obtain ⟨x1, x2, x3, x4⟩ := a
                  dsimp only at hname HCA
                  subst hname
                  have e0 : wr.cell? ⟨bb, off + i * 4, none⟩ = some (.string x1) := hcs 0 _ rfl
                  have e1 : wr.cell? ⟨bb, off + i * 4 + 1, none⟩ = some (.int .i64 x2) := hcs 1 _ rfl
                  have e2 : wr.cell? ⟨bb, off + i * 4 + 2, none⟩ = some (.int .i64 x3) := hcs 2 _ rfl
                  have e3 : wr.cell? ⟨bb, off + i * 4 + 3, none⟩ = some (.int .i64 x4) := hcs 3 _ rfl
                  have l3 : (i : Int) < (qL : Int) := by omega
                  have l4 : (0 : Int) ≤ (i : Int) := by omega
                  have hwi : IntKind.i64.wrap ((i : Int) + 1) = (i : Int) + 1 := IntWalk.i64_in _ (by omega)
                  obtain ⟨wx, hwx⟩ : ∃ W, wr.alloc (.cells #[.string x1, .int .i64 x2, .int .i64 x3, .int .i64 x4] 51) = W := ⟨_, rfl⟩
                  have hbx : Below wr.heap.size wr wx := by rw [← hwx]; exact (Below.refl _ _).alloc (Nat.le_refl _) _
                  have hyx : wx.heap[wr.heap.size]? = some (.cells #[.string x1, .int .i64 x2, .int .i64 x3, .int .i64 x4] 51 (0, 0)) := by rw [← hwx]; exact heap_alloc_new _ _
                  have hlx : wr.heap.size < wx.heap.size := by rw [← hwx]; simp
                  have HXx := Lib.hid hyx
                  have HBX := Lib.hid (HB6.out.trans (hbx.mono hz6))
                  have hzx : w6.heap.size ≤ wx.heap.size := HBX.out.size
                  have HCT := Lib.hid (fun W (h : Below wx.heap.size wx W) => HCA.out W ((HS5.out.below (HB5.out.trans ((HBX.out.trans (h.mono hzx)).mono hz56))).more (HB5.out.trans ((HBX.out.trans (h.mono hzx)).mono hz56)).size))
                  have HNA := Lib.hid (fun W => Name_any x1 lv W)
                  have hme := name_near
                  obtain ⟨p, hp⟩ : ∃ p, wr.heap.size = p := ⟨_, rfl⟩
                  rw [hp] at HXx hlx
                  have hpx : p < wx.heap.size := hlx
                  clear hcs hr hmem hin hbx hyx HCA
                  go_wp2
                  refine wp_region_held_drew (S := (fun W => Below wx.heap.size wx W)) (by kernel_rfl) ((Below.refl _ _).drew) (fun hHeld => ?_)
                  refine wpAnyH_take (i := 0) (oi := ⟨some 84, _, _, _, _, _⟩) (v := ?rv0) rfl (by kernel_rfl) (by kernel_rfl) (by kernel_rfl) (fun _ _ _ h => h) (Or.inl ⟨by rfl, ?ry0⟩) hHeld ?rr0
                  case ry0 => (intro W hSw; (try dsimp only at hSw); go_simp; try with_reducible rfl)
                  try simp only [Act.put, List.setIfInBounds_toArray, List.set_cons_zero, List.set_cons_succ]
                  refine wpAnyH_take (i := 1) (oi := ⟨some 85, _, _, _, _, _⟩) (v := ?rv1) rfl (by kernel_rfl) (by kernel_rfl) (by kernel_rfl) (fun _ _ _ h => h) (Or.inl ⟨by rfl, ?ry1⟩) hHeld ?rr1
                  case ry1 => (intro W hSw; (try dsimp only at hSw); have f0 := (hSw.cell (p := ⟨p, 0, none⟩) hpx).trans (cell_of_row wx p 0 _ 51 (0, 0) HXx.out); go_simp; try with_reducible rfl)
                  try simp only [Act.put, List.setIfInBounds_toArray, List.set_cons_zero, List.set_cons_succ]
                  refine wpAnyH_take (i := 2) (oi := ⟨some 86, _, _, _, _, _⟩) (v := ?rv2) rfl (by kernel_rfl) (by kernel_rfl) (by kernel_rfl) (fun _ _ _ h => h) (Or.inl ⟨by rfl, ?ry2⟩) hHeld ?rr2
                  case ry2 => (intro W hSw; (try dsimp only at hSw); go_simp; try with_reducible rfl)
                  try simp only [Act.put, List.setIfInBounds_toArray, List.set_cons_zero, List.set_cons_succ]
                  refine wpAnyH_ready (rs := [3]) (by kernel_rfl) (by simp) ?_
                  refine AllReadyH.cons (o := ⟨some 87, _, _, _, _, _⟩) rfl (fun K hK => ?_) AllReadyH.nil
                  go_simp
                  go_at_call 105; refine (HNA.out _).mono ?_; rintro E wn ⟨rfl, hb⟩
                  refine hK.out _ _ (hHeld.trans (hb.mono hHeld.size)) (fun hHeld => ?_)
                  clear hK K
                  try simp only [Act.put, List.setIfInBounds_toArray, List.set_cons_zero, List.set_cons_succ]
                  refine wpAnyH_take (i := 4) (oi := ⟨some 88, _, _, _, _, _⟩) (v := ?rv4) rfl (by kernel_rfl) (by kernel_rfl) (by kernel_rfl) (fun _ _ _ h => h) (Or.inl ⟨by rfl, ?ry4⟩) hHeld ?rr4
                  case ry4 => (intro W hSw; (try dsimp only at hSw); go_simp; try with_reducible rfl)
                  try simp only [Act.put, List.setIfInBounds_toArray, List.set_cons_zero, List.set_cons_succ]
                  refine wpAnyH_take (i := 5) (oi := ⟨some 89, _, _, _, _, _⟩) (v := ?rv5) rfl (by kernel_rfl) (by kernel_rfl) (by kernel_rfl) (fun _ _ _ h => h) (Or.inl ⟨by rfl, ?ry5⟩) hHeld ?rr5
                  case ry5 => (intro W hSw; (try dsimp only at hSw); go_simp; try with_reducible rfl)
                  try simp only [Act.put, List.setIfInBounds_toArray, List.set_cons_zero, List.set_cons_succ]
                  refine wpAnyH_take (i := 6) (oi := ⟨some 90, _, _, _, _, _⟩) (v := ?rv6) rfl (by kernel_rfl) (by kernel_rfl) (by kernel_rfl) (fun _ _ _ h => h) (Or.inl ⟨by rfl, ?ry6⟩) hHeld ?rr6
                  case ry6 => (intro W hSw; (try dsimp only at hSw); go_simp; try with_reducible rfl)
                  try simp only [Act.put, List.setIfInBounds_toArray, List.set_cons_zero, List.set_cons_succ]
                  refine wpAnyH_take (i := 7) (oi := ⟨some 91, _, _, _, _, _⟩) (v := ?rv7) rfl (by kernel_rfl) (by kernel_rfl) (by kernel_rfl) (fun _ _ _ h => h) (Or.inl ⟨by rfl, ?ry7⟩) hHeld ?rr7
                  case ry7 => (intro W hSw; (try dsimp only at hSw); have f0 := (hSw.cell (p := ⟨p, 0, none⟩) hpx).trans (cell_of_row wx p 0 _ 51 (0, 0) HXx.out); have f1 := (hSw.cell (p := ⟨p, 1, none⟩) hpx).trans (cell_of_row wx p 1 _ 51 (0, 0) HXx.out); have f2 := (hSw.cell (p := ⟨p, 2, none⟩) hpx).trans (cell_of_row wx p 2 _ 51 (0, 0) HXx.out); have f3 := (hSw.cell (p := ⟨p, 3, none⟩) hpx).trans (cell_of_row wx p 3 _ 51 (0, 0) HXx.out); go_simp; try with_reducible rfl)
                  try simp only [Act.put, List.setIfInBounds_toArray, List.set_cons_zero, List.set_cons_succ]
                  refine wpAnyH_ready (rs := [8]) (by kernel_rfl) (by simp) ?_
                  refine AllReadyH.cons (o := ⟨some 92, _, _, _, _, _⟩) rfl (fun K hK => ?_) AllReadyH.nil
                  go_simp
                  go_at_call 13; refine (HCT.out wn (hHeld)).mono ?_; rintro E wm ⟨rfl, hb⟩
                  refine hK.out _ _ (hHeld.trans (hb.mono hHeld.size)) (fun hHeld => ?_)
                  clear hK K
                  try simp only [Act.put, List.setIfInBounds_toArray, List.set_cons_zero, List.set_cons_succ]
                  refine wpAnyH_take (i := 9) (oi := ⟨some 93, _, _, _, _, _⟩) (v := ?rv9) rfl (by kernel_rfl) (by kernel_rfl) (by kernel_rfl) (fun _ _ _ h => h) (Or.inl ⟨by rfl, ?ry9⟩) hHeld ?rr9
                  case ry9 => (intro W hSw; (try dsimp only at hSw); go_simp; try with_reducible rfl)
                  try simp only [Act.put, List.setIfInBounds_toArray, List.set_cons_zero, List.set_cons_succ]
                  refine wpAnyH_take (i := 10) (oi := ⟨some 94, _, _, _, _, _⟩) (v := ?rv10) rfl (by kernel_rfl) (by kernel_rfl) (by kernel_rfl) (fun _ _ _ h => h) (Or.inl ⟨by rfl, ?ry10⟩) hHeld ?rr10
                  case ry10 => (intro W hSw; (try dsimp only at hSw); go_simp; try with_reducible rfl)
                  try simp only [Act.put, List.setIfInBounds_toArray, List.set_cons_zero, List.set_cons_succ]
                  refine wpAnyH_done (by kernel_rfl) ?_ _
                  have HB9 := Lib.hid (HBX.out.trans (hHeld.mono hzx))
                  clear hHeld
                  go_wp2
                  go_roundw
                  case rel => exact ⟨i + 1, by omega, by go_num, HB9⟩
                  case measure => simp [intOf]; omega
                · obtain rfl : qL = i := by omega
                  have HB9 := Lib.hid (HB5.out.trans (HB6.out.mono hz56))
                  go_wp2
                  go_roundw
                  case rel => exact ⟨j + 1, by omega, by go_num, HB9⟩
                  case measure => simp [intOf]; omega
            · have HAL := Lib.hid (hcl s wz (Below.refl _ _) (HSTo.out wz HB.out))
              rw [HVV.out, hL] at HAL
              unfold AlsP at HAL
              rw [hqL] at HAL
              clear hcl HGr hL hqL
              go_wp2_with (first
                | (go_at_call 106; go_loud (refine HAL.out.mono ?_; rintro E w5 ⟨⟨V5, cv5, rfl, ho5⟩, hb5⟩; have HS6 := Lib.hid (Sl_rows alL_len ho5 HQL.out (by decide)); have HB5 := Lib.hid (HB.out.trans (hb5.mono hzr)); clear ho5 hb5))
                | (go_at_call 108; go_loud (refine HAL.out.mono ?_; rintro E w5 ⟨⟨V5, cv5, rfl, ho5⟩, hb5⟩; have HS6 := Lib.hid (Sl_rows alL_len ho5 HQL.out (by decide)); have HB5 := Lib.hid (HB.out.trans (hb5.mono hzr)); clear ho5 hb5)))
              obtain ⟨w6, rfl⟩ : ∃ w6, w6 = w5 := ⟨_, rfl⟩
              have hz56 : wo.heap.size ≤ w6.heap.size := HB5.out.size
              clear p0 p1 p2 d0
              go_loopw [80] (fun x wr => ∃ i : Nat, i ≤ qL ∧ x = .int .i64 (i : Int) ∧ Hid (Below w6.heap.size w6 wr)) (fun x _ => qL - (intOf x).toNat)
              case atStart => exact ⟨0, by omega, rfl, Lib.hid (Below.refl _ _)⟩
              case round =>
                obtain ⟨i, hi, rfl, HB6⟩ := hrel
                have hz6 := HB6.out.size
                by_cases hlt2 : i < qL
                · obtain ⟨bb, off, rfl, hbb, hr⟩ := HS6.out (by omega)
                  have hcs : ∀ u v, (alL L[i]!)[u]? = some v → wr.cell? ⟨bb, off + i * 4 + u, none⟩ = some v := fun u v hv => (HB6.out.cell (p := ⟨bb, off + i * 4 + u, none⟩) hbb).trans (hr i hlt2 u v hv)
                  have hmem : L[i]! ∈ L := by rw [getElem!_pos L i (by rw [HQL.out]; exact hlt2)]; exact List.getElem_mem _
                  have hname := HNM.out _ hmem
                  have hin := HMM.out _ hmem
                  have HCA := Lib.hid (fun W hs => Contains_any V4 q cv4 R4 L[i]! W hs HQ4.out (by omega))
                  rw [decide_eq_true hin] at HCA
                  generalize L[i]! = a at *
                  obtain ⟨x1, x2, x3, x4⟩ := a
                  dsimp only at hname HCA
                  subst hname
                  have e0 : wr.cell? ⟨bb, off + i * 4, none⟩ = some (.string x1) := hcs 0 _ rfl
                  have e1 : wr.cell? ⟨bb, off + i * 4 + 1, none⟩ = some (.int .i64 x2) := hcs 1 _ rfl
                  have e2 : wr.cell? ⟨bb, off + i * 4 + 2, none⟩ = some (.int .i64 x3) := hcs 2 _ rfl
                  have e3 : wr.cell? ⟨bb, off + i * 4 + 3, none⟩ = some (.int .i64 x4) := hcs 3 _ rfl
                  have l3 : (i : Int) < (qL : Int) := by omega
                  have l4 : (0 : Int) ≤ (i : Int) := by omega
                  have hwi : IntKind.i64.wrap ((i : Int) + 1) = (i : Int) + 1 := IntWalk.i64_in _ (by omega)
                  obtain ⟨wx, hwx⟩ : ∃ W, wr.alloc (.cells #[.string x1, .int .i64 x2, .int .i64 x3, .int .i64 x4] 51) = W := ⟨_, rfl⟩
                  have hbx : Below wr.heap.size wr wx := by rw [← hwx]; exact (Below.refl _ _).alloc (Nat.le_refl _) _
                  have hyx : wx.heap[wr.heap.size]? = some (.cells #[.string x1, .int .i64 x2, .int .i64 x3, .int .i64 x4] 51 (0, 0)) := by rw [← hwx]; exact heap_alloc_new _ _
                  have hlx : wr.heap.size < wx.heap.size := by rw [← hwx]; simp
                  have HXx := Lib.hid hyx
                  have HBX := Lib.hid (HB6.out.trans (hbx.mono hz6))
                  have hzx : w6.heap.size ≤ wx.heap.size := HBX.out.size
                  have HCT := Lib.hid (fun W (h : Below wx.heap.size wx W) => HCA.out W ((HS5.out.below (HB5.out.trans ((HBX.out.trans (h.mono hzx)).mono hz56))).more (HB5.out.trans ((HBX.out.trans (h.mono hzx)).mono hz56)).size))
                  have HNA := Lib.hid (fun W => Name_any x1 lv W)
                  have hme := name_single
                  obtain ⟨p, hp⟩ : ∃ p, wr.heap.size = p := ⟨_, rfl⟩
                  rw [hp] at HXx hlx
                  have hpx : p < wx.heap.size := hlx
                  clear hcs hr hmem hin hbx hyx HCA
                  go_wp2
                  refine wp_region_held_drew (S := (fun W => Below wx.heap.size wx W)) (by kernel_rfl) ((Below.refl _ _).drew) (fun hHeld => ?_)
                  refine wpAnyH_take (i := 0) (oi := ⟨some 84, _, _, _, _, _⟩) (v := ?sv0) rfl (by kernel_rfl) (by kernel_rfl) (by kernel_rfl) (fun _ _ _ h => h) (Or.inl ⟨by rfl, ?sy0⟩) hHeld ?sr0
                  case sy0 => (intro W hSw; (try dsimp only at hSw); go_simp; try with_reducible rfl)
                  try simp only [Act.put, List.setIfInBounds_toArray, List.set_cons_zero, List.set_cons_succ]
                  refine wpAnyH_take (i := 1) (oi := ⟨some 85, _, _, _, _, _⟩) (v := ?sv1) rfl (by kernel_rfl) (by kernel_rfl) (by kernel_rfl) (fun _ _ _ h => h) (Or.inl ⟨by rfl, ?sy1⟩) hHeld ?sr1
                  case sy1 => (intro W hSw; (try dsimp only at hSw); have f0 := (hSw.cell (p := ⟨p, 0, none⟩) hpx).trans (cell_of_row wx p 0 _ 51 (0, 0) HXx.out); go_simp; try with_reducible rfl)
                  try simp only [Act.put, List.setIfInBounds_toArray, List.set_cons_zero, List.set_cons_succ]
                  refine wpAnyH_take (i := 2) (oi := ⟨some 86, _, _, _, _, _⟩) (v := ?sv2) rfl (by kernel_rfl) (by kernel_rfl) (by kernel_rfl) (fun _ _ _ h => h) (Or.inl ⟨by rfl, ?sy2⟩) hHeld ?sr2
                  case sy2 => (intro W hSw; (try dsimp only at hSw); go_simp; try with_reducible rfl)
                  try simp only [Act.put, List.setIfInBounds_toArray, List.set_cons_zero, List.set_cons_succ]
                  refine wpAnyH_ready (rs := [3]) (by kernel_rfl) (by simp) ?_
                  refine AllReadyH.cons (o := ⟨some 87, _, _, _, _, _⟩) rfl (fun K hK => ?_) AllReadyH.nil
                  go_simp
                  go_at_call 105; refine (HNA.out _).mono ?_; rintro E wn ⟨rfl, hb⟩
                  refine hK.out _ _ (hHeld.trans (hb.mono hHeld.size)) (fun hHeld => ?_)
                  clear hK K
                  try simp only [Act.put, List.setIfInBounds_toArray, List.set_cons_zero, List.set_cons_succ]
                  refine wpAnyH_take (i := 4) (oi := ⟨some 88, _, _, _, _, _⟩) (v := ?sv4) rfl (by kernel_rfl) (by kernel_rfl) (by kernel_rfl) (fun _ _ _ h => h) (Or.inl ⟨by rfl, ?sy4⟩) hHeld ?sr4
                  case sy4 => (intro W hSw; (try dsimp only at hSw); go_simp; try with_reducible rfl)
                  try simp only [Act.put, List.setIfInBounds_toArray, List.set_cons_zero, List.set_cons_succ]
                  refine wpAnyH_take (i := 5) (oi := ⟨some 89, _, _, _, _, _⟩) (v := ?sv5) rfl (by kernel_rfl) (by kernel_rfl) (by kernel_rfl) (fun _ _ _ h => h) (Or.inl ⟨by rfl, ?sy5⟩) hHeld ?sr5
                  case sy5 => (intro W hSw; (try dsimp only at hSw); go_simp; try with_reducible rfl)
                  try simp only [Act.put, List.setIfInBounds_toArray, List.set_cons_zero, List.set_cons_succ]
                  refine wpAnyH_take (i := 6) (oi := ⟨some 90, _, _, _, _, _⟩) (v := ?sv6) rfl (by kernel_rfl) (by kernel_rfl) (by kernel_rfl) (fun _ _ _ h => h) (Or.inl ⟨by rfl, ?sy6⟩) hHeld ?sr6
                  case sy6 => (intro W hSw; (try dsimp only at hSw); go_simp; try with_reducible rfl)
                  try simp only [Act.put, List.setIfInBounds_toArray, List.set_cons_zero, List.set_cons_succ]
                  refine wpAnyH_take (i := 7) (oi := ⟨some 91, _, _, _, _, _⟩) (v := ?sv7) rfl (by kernel_rfl) (by kernel_rfl) (by kernel_rfl) (fun _ _ _ h => h) (Or.inl ⟨by rfl, ?sy7⟩) hHeld ?sr7
                  case sy7 => (intro W hSw; (try dsimp only at hSw); have f0 := (hSw.cell (p := ⟨p, 0, none⟩) hpx).trans (cell_of_row wx p 0 _ 51 (0, 0) HXx.out); have f1 := (hSw.cell (p := ⟨p, 1, none⟩) hpx).trans (cell_of_row wx p 1 _ 51 (0, 0) HXx.out); have f2 := (hSw.cell (p := ⟨p, 2, none⟩) hpx).trans (cell_of_row wx p 2 _ 51 (0, 0) HXx.out); have f3 := (hSw.cell (p := ⟨p, 3, none⟩) hpx).trans (cell_of_row wx p 3 _ 51 (0, 0) HXx.out); go_simp; try with_reducible rfl)
                  try simp only [Act.put, List.setIfInBounds_toArray, List.set_cons_zero, List.set_cons_succ]
                  refine wpAnyH_ready (rs := [8]) (by kernel_rfl) (by simp) ?_
                  refine AllReadyH.cons (o := ⟨some 92, _, _, _, _, _⟩) rfl (fun K hK => ?_) AllReadyH.nil
                  go_simp
                  go_at_call 13; refine (HCT.out wn (hHeld)).mono ?_; rintro E wm ⟨rfl, hb⟩
                  refine hK.out _ _ (hHeld.trans (hb.mono hHeld.size)) (fun hHeld => ?_)
                  clear hK K
                  try simp only [Act.put, List.setIfInBounds_toArray, List.set_cons_zero, List.set_cons_succ]
                  refine wpAnyH_take (i := 9) (oi := ⟨some 93, _, _, _, _, _⟩) (v := ?sv9) rfl (by kernel_rfl) (by kernel_rfl) (by kernel_rfl) (fun _ _ _ h => h) (Or.inl ⟨by rfl, ?sy9⟩) hHeld ?sr9
                  case sy9 => (intro W hSw; (try dsimp only at hSw); go_simp; try with_reducible rfl)
                  try simp only [Act.put, List.setIfInBounds_toArray, List.set_cons_zero, List.set_cons_succ]
                  refine wpAnyH_take (i := 10) (oi := ⟨some 94, _, _, _, _, _⟩) (v := ?sv10) rfl (by kernel_rfl) (by kernel_rfl) (by kernel_rfl) (fun _ _ _ h => h) (Or.inl ⟨by rfl, ?sy10⟩) hHeld ?sr10
                  case sy10 => (intro W hSw; (try dsimp only at hSw); go_simp; try with_reducible rfl)
                  try simp only [Act.put, List.setIfInBounds_toArray, List.set_cons_zero, List.set_cons_succ]
                  refine wpAnyH_done (by kernel_rfl) ?_ _
                  have HB9 := Lib.hid (HBX.out.trans (hHeld.mono hzx))
                  clear hHeld
                  go_wp2
                  go_roundw
                  case rel => exact ⟨i + 1, by omega, by go_num, HB9⟩
                  case measure => simp [intOf]; omega
                · obtain rfl : qL = i := by omega
                  have HB9 := Lib.hid (HB5.out.trans (HB6.out.mono hz56))
                  go_wp2
                  go_roundw
                  case rel => exact ⟨j + 1, by omega, by go_num, HB9⟩
                  case measure => simp [intOf]; omega
          · obtain rfl : m = j := by omega
            go_wp2_with (go_at_call 9; go_loud (refine (HFA.out _).mono ?_; rintro E w9 ⟨rfl, hb9⟩; have HB9 := Lib.hid (HBo.out.trans ((HB.out.trans (hb9.mono hzr)).mono HBo.out.size)); clear hb9))
            go_ret
            exact ⟨rfl, by first | exact HB9.out | (rw [← HG.out]; exact HB9.out)⟩
  · have HAB := Lib.hid (fun A m c R w h1 h2 h3 => All_bad A m c R s w h1 h2 h3 hce)
    rw [HVV.out] at HAB
    generalize checkE s = ce at *
    have hpd : (ce == 0) = false := beq_eq_false_iff_ne.2 hce
    have hpe : (ce != 0) = true := bne_iff_ne.2 hce
    clear hce
    go_enter Try.func6, Try.ntmps6
    go_wp2_with (first
      | (go_at_call 14; go_loud (refine HSV.out.mono ?_; rintro E w2 ⟨V, m, cv, Rl, rfl, hm, hl, ho, hr, hb2⟩; have HV2 := Lib.hid (cells_one ho); have HB2 := Lib.hid hb2; have u2 := (hb2.block g hl0).trans HY.out; have b0 := cell_of_row w2 _ 0 _ 25 (0, 0) u2; have b1 := cell_of_row w2 _ 1 _ 25 (0, 0) u2; have b2 := cell_of_row w2 _ 2 _ 25 (0, 0) u2; simp only [List.getElem?_toArray, List.getElem?_cons_zero, List.getElem?_cons_succ] at b0 b1 b2; clear ho hr hb2 hl u2))
      | (go_at_call 16; go_loud (refine (HAB.out V m cv (fun i => Rl[i]!) w2 (HST.out w2 HB2.out) HV2.out (by omega)).mono ?_; rintro E w3 ⟨rfl, hb3⟩; have HB3 := Lib.hid (HB2.out.trans (hb3.mono HB2.out.size)); clear hb3))
      | (go_at_call 9; go_loud (refine (HFA.out _).mono ?_; rintro E w4 ⟨rfl, hb4⟩; have HB4 := Lib.hid (HB3.out.trans (hb4.mono HB3.out.size)); have u4 := (HB4.out.block g hl0).trans HY.out; have c0 := cell_of_row w4 _ 0 _ 25 (0, 0) u4; have c1 := cell_of_row w4 _ 1 _ 25 (0, 0) u4; have c2 := cell_of_row w4 _ 2 _ 25 (0, 0) u4; simp only [List.getElem?_toArray, List.getElem?_cons_zero, List.getElem?_cons_succ] at c0 c1 c2; clear hb4 u4))
      | (go_at_call 10; go_loud (refine (HCH.out _ HB4.out).mono ?_; rintro E w5 ⟨rfl, hb5⟩; have HB5 := Lib.hid (HB1.out.trans ((HB4.out.trans (hb5.mono HB4.out.size)).mono HB1.out.size)); clear hb5)))
    go_ret
    exact ⟨by first | rfl | (simp; done), by first | exact HB5.out | (rw [← HG.out]; exact HB5.out)⟩
end Go.Proofs.Ytdmecagdjbjgjaa
