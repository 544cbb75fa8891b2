/- The rules on single tracks: their alerts, the test asked only for tracks of a valid scene. -/
import Derived.Test.YtdmecagdjbjgjaaR17
namespace Go.Proofs.Ytdmecagdjbjgjaa
open Go.RowKit

set_option maxRecDepth 100000 in
set_option maxHeartbeats 16000000 in
theorem sing41 (t : ByteArray) (lv : Int) (p : Nat) (f : Tr → Bool) (s : Sc) (w : World) (hS : s.at_ w w.heap.size)
    (hf : ∀ (W : World) (b : Nat), b < s.n → checkE s = 0 → Below w.heap.size w W → Calls Try.prog 41 #[s.val, trV (s.T b), .pointer (some ⟨p, 0, none⟩)] W fun e w' => e = .returned (.bool (f (s.T b))) ∧ Below W.heap.size W w') :
    Calls Try.prog 108 #[.agg #[.string t, .int .i64 lv, .func (.func 41) #[] #[.pointer (some ⟨p, 0, none⟩)]], s.val] w (AlsP (singA s t lv f) w) := by
  have HR : Hid (singA s t lv f = if checkE s = 0 then singL s.T t lv f s.n else []) := Lib.hid rfl
  unfold AlsP
  generalize singA s t lv f = R at *
  obtain ⟨w1, hw1⟩ : ∃ W, w.alloc (.cells #[.string t, .int .i64 lv, .func (.func 41) #[] #[.pointer (some ⟨p, 0, none⟩)]] 113) = W := ⟨_, rfl⟩
  obtain ⟨w2, hw2⟩ : ∃ W, w1.alloc (.cells #[.int .i64 s.tm, .slice s.A s.n s.c, .slice s.B s.m s.d] 25) = W := ⟨_, rfl⟩
  have hb1 : Below w.heap.size w w1 := by rw [← hw1]; exact (Below.refl _ _).alloc (Nat.le_refl _) _
  have hb2 : Below w1.heap.size w1 w2 := by rw [← hw2]; exact (Below.refl _ _).alloc (Nat.le_refl _) _
  have hs1 : w1.heap.size = w.heap.size + 1 := by rw [← hw1]; simp
  have hs2 : w2.heap.size = w.heap.size + 1 + 1 := by rw [← hw2]; simp [hs1]
  have hb12 := hb1.trans (hb2.mono hb1.size)
  have hyg : w2.heap[w.heap.size]? = some (.cells #[.string t, .int .i64 lv, .func (.func 41) #[] #[.pointer (some ⟨p, 0, none⟩)]] 113 (0, 0)) := (hb2.block w.heap.size (by omega)).trans (by rw [← hw1]; exact heap_alloc_new _ _)
  have hyc : w2.heap[w1.heap.size]? = some (.cells #[.int .i64 s.tm, .slice s.A s.n s.c, .slice s.B s.m s.d] 25 (0, 0)) := by rw [← hw2]; exact heap_alloc_new _ _
  have HCH := Lib.hid (Check_any s w2 (hS.step hb12))
  have HT0 := Lib.hid ((hS.step hb12).2.1)
  have hck : checkE s = 0 → s.n ≤ 32 := fun h => (checkE_zero h).1
  have HF := Lib.hid hf
  generalize checkE s = ce at *
  unfold Sc.val at *
  obtain ⟨tm, A, n, c, B, mm, d, T, V⟩ := s
  dsimp only at *
  have hl0 : w.heap.size < w2.heap.size := by omega
  have hl1 : w1.heap.size < w2.heap.size := by omega
  clear hS hb1 hb2 hf
  obtain ⟨g, hg⟩ : ∃ g, w.heap.size = g := ⟨_, rfl⟩
  obtain ⟨k, hk⟩ : ∃ k, w1.heap.size = k := ⟨_, rfl⟩
  rw [hg] at hyg hl0
  rw [hk] at hyc hl1
  have HG := Lib.hid hg
  have HBW := Lib.hid hb12
  have HGY := Lib.hid hyg
  have HKY := Lib.hid hyc
  have c0 : w2.cell? ⟨k, 0, none⟩ = some (.int .i64 tm) := cell_of_row w2 _ 0 _ 25 (0, 0) hyc
  have c1 : w2.cell? ⟨k, 1, none⟩ = some (.slice A n c) := cell_of_row w2 _ 1 _ 25 (0, 0) hyc
  have c2 : w2.cell? ⟨k, 2, none⟩ = some (.slice B mm d) := cell_of_row w2 _ 2 _ 25 (0, 0) hyc
  clear hb12 hyg hyc hs1 hs2
  by_cases hce : ce = 0
  · subst hce
    rw [if_pos rfl] at HR
    have hn := hck rfl
    clear hck
    obtain ⟨i51, E0, E1, E2, E3⟩ := info_parts alert_info
    have hn0 : (0 : Int) ≤ (n : Int) := by omega
    go_enter Try.func108, Try.ntmps108
    go_wp2_with (go_at_call 10; go_loud (refine HCH.out.mono ?_; rintro E wb ⟨rfl, hbc⟩; have HBC := Lib.hid hbc; have k1 : wb.cell? ⟨k, 1, none⟩ = some (.slice A n c) := (hbc.cell (p := ⟨k, 1, none⟩) hl1).trans c1; have hzb := hbc.size; clear hbc))
    have HGb := Lib.hid ((HBC.out.block g hl0).trans HGY.out)
    have HKb := Lib.hid ((HBC.out.block k hl1).trans HKY.out)
    have HTb := Lib.hid ((HT0.out.below HBC.out).more hzb)
    have HBb := Lib.hid (HBW.out.trans (HBC.out.mono HBW.out.size))
    have hgb : g < wb.heap.size := by omega
    have hkb : k < wb.heap.size := by omega
    clear HT0 HCH c0 c1 c2 HGY HKY HBC HBW
    go_loopw [5, 14] (fun v x wr => ∃ (b m : Nat) (V : Option Addr) (cv : Nat), b ≤ n ∧ x = .int .i64 (b : Int) ∧ v = .slice V m cv ∧ Hid ((singL T t lv f b).length = m) ∧ Hid (wr.ownsRow wb.heap.size 51 4 (.slice V m cv) m (rowsV alL (singL T t lv f b))) ∧ Hid (Below wb.heap.size wb wr)) (fun _ x _ => n - (intOf x).toNat)
    case atStart => exact ⟨0, 0, none, 0, by omega, rfl, rfl, Lib.hid rfl, Lib.hid (World.ownsRow_nil _ _ _ _), Lib.hid (Below.refl _ _)⟩
    case round =>
      obtain ⟨b, m, V, cv, hbn, rfl, rfl, HM, HO, HB⟩ := hrel
      have hzr := HB.out.size
      by_cases hlt : b < n
      · obtain ⟨bb, off, rfl, hbb, hr⟩ := HTb.out (by omega)
        have hcs : ∀ i v, (trL (T b))[i]? = some v → wr.cell? ⟨bb, off + b * 13 + i, none⟩ = some v := fun i v hv => (HB.out.cell (p := ⟨bb, off + b * 13 + i, none⟩) hbb).trans (hr b hlt i v hv)
        have hml : m ≤ b := by have h1 := HM.out; have h2 := singL_len T t lv f b; omega
        have HST := Lib.hid (singL_step T t lv f b)
        have hft : ∀ W, Below w.heap.size w W → _ := fun W hb => HF.out W b hlt (by trivial) hb
        obtain ⟨u, hu⟩ : ∃ u, T b = u := ⟨_, rfl⟩
        rw [hu] at hcs HST hft
        clear hu hr
        obtain ⟨y0, y1, y2, y3, y4, y5, y6, y7, y8, y9, y10, y11, y12⟩ := u
        have dy0 : wr.cell? ⟨bb, off + b * 13, none⟩ = some (.int .i64 y0) := hcs 0 _ rfl
        have dy1 : wr.cell? ⟨bb, off + b * 13 + 1, none⟩ = some (.int .i64 y1) := hcs 1 _ rfl
        have dy2 : wr.cell? ⟨bb, off + b * 13 + 2, none⟩ = some (.int .i64 y2) := hcs 2 _ rfl
        have dy3 : wr.cell? ⟨bb, off + b * 13 + 3, none⟩ = some (.int .i64 y3) := hcs 3 _ rfl
        have dy4 : wr.cell? ⟨bb, off + b * 13 + 4, none⟩ = some (.int .i64 y4) := hcs 4 _ rfl
        have dy5 : wr.cell? ⟨bb, off + b * 13 + 5, none⟩ = some (.int .i64 y5) := hcs 5 _ rfl
        have dy6 : wr.cell? ⟨bb, off + b * 13 + 6, none⟩ = some (.int .i64 y6) := hcs 6 _ rfl
        have dy7 : wr.cell? ⟨bb, off + b * 13 + 7, none⟩ = some (.int .i64 y7) := hcs 7 _ rfl
        have dy8 : wr.cell? ⟨bb, off + b * 13 + 8, none⟩ = some (.int .i64 y8) := hcs 8 _ rfl
        have dy9 : wr.cell? ⟨bb, off + b * 13 + 9, none⟩ = some (.int .i64 y9) := hcs 9 _ rfl
        have dy10 : wr.cell? ⟨bb, off + b * 13 + 10, none⟩ = some (.int .i64 y10) := hcs 10 _ rfl
        have dy11 : wr.cell? ⟨bb, off + b * 13 + 11, none⟩ = some (.int .i64 y11) := hcs 11 _ rfl
        have dy12 : wr.cell? ⟨bb, off + b * 13 + 12, none⟩ = some (.int .i64 y12) := hcs 12 _ rfl
        clear hcs
        have HFT := Lib.hid hft
        unfold trV at HFT
        dsimp only at HFT
        clear hft
        obtain ⟨q, hq⟩ : ∃ q, f ⟨y0, y1, y2, y3, y4, y5, y6, y7, y8, y9, y10, y11, y12⟩ = q := ⟨_, rfl⟩
        rw [hq] at HFT HST
        clear hq
        have l1 : (b : Int) < (n : Int) := by omega
        have l0 : (0 : Int) ≤ (b : Int) := by omega
        have hwb : IntKind.i64.wrap ((b : Int) + 1) = (b : Int) + 1 := IntWalk.i64_in _ (by omega)
        obtain ⟨wy, hwy⟩ : ∃ W, wr.alloc (.cells #[.int .i64 y0, .int .i64 y1, .int .i64 y2, .int .i64 y3, .int .i64 y4, .int .i64 y5, .int .i64 y6, .int .i64 y7, .int .i64 y8, .int .i64 y9, .int .i64 y10, .int .i64 y11, .int .i64 y12] 41) = W := ⟨_, rfl⟩
        have hby : Below wr.heap.size wr wy := by rw [← hwy]; exact (Below.refl _ _).alloc (Nat.le_refl _) _
        have hyy : wy.heap[wr.heap.size]? = some (.cells #[.int .i64 y0, .int .i64 y1, .int .i64 y2, .int .i64 y3, .int .i64 y4, .int .i64 y5, .int .i64 y6, .int .i64 y7, .int .i64 y8, .int .i64 y9, .int .i64 y10, .int .i64 y11, .int .i64 y12] 41 (0, 0)) := by rw [← hwy]; exact heap_alloc_new _ _
        have hly : wr.heap.size < wy.heap.size := by rw [← hwy]; simp
        have hkr : k < wr.heap.size := by omega
        have hgr : g < wr.heap.size := by omega
        have HYY := Lib.hid hyy
        have HOy := Lib.hid (own_below HO.out hby (Nat.le_refl _))
        have HBy := Lib.hid (hby)
        have ky := (hby.block k hkr).trans ((HB.out.block k hkb).trans HKb.out)
        have gy := (hby.block g hgr).trans ((HB.out.block g hgb).trans HGb.out)
        have HBZ := Lib.hid (HBb.out.trans ((HB.out.trans (hby.mono hzr)).mono HBb.out.size))
        have a0 : wy.cell? ⟨k, 0, none⟩ = some (.int .i64 tm) := cell_of_row wy _ 0 _ 25 (0, 0) ky
        have a1 : wy.cell? ⟨k, 1, none⟩ = some (.slice (some ⟨bb, off, none⟩) n c) := cell_of_row wy _ 1 _ 25 (0, 0) ky
        have a2 : wy.cell? ⟨k, 2, none⟩ = some (.slice B mm d) := cell_of_row wy _ 2 _ 25 (0, 0) ky
        have a3 : wy.cell? ⟨g, 2, none⟩ = some (.func (.func 41) #[] #[.pointer (some ⟨p, 0, none⟩)]) := cell_of_row wy _ 2 _ 113 (0, 0) gy
        have HGy := Lib.hid gy
        have hgy : g < wy.heap.size := by omega
        clear hby hyy ky gy
        obtain ⟨r, hr⟩ : ∃ r, wr.heap.size = r := ⟨_, rfl⟩
        rw [hr] at HYY hly
        have v0 := cell_of_row wy _ 0 _ 41 (0, 0) HYY.out
        have v1 := cell_of_row wy _ 1 _ 41 (0, 0) HYY.out
        have v2 := cell_of_row wy _ 2 _ 41 (0, 0) HYY.out
        have v3 := cell_of_row wy _ 3 _ 41 (0, 0) HYY.out
        have v4 := cell_of_row wy _ 4 _ 41 (0, 0) HYY.out
        have v5 := cell_of_row wy _ 5 _ 41 (0, 0) HYY.out
        have v6 := cell_of_row wy _ 6 _ 41 (0, 0) HYY.out
        have v7 := cell_of_row wy _ 7 _ 41 (0, 0) HYY.out
        have v8 := cell_of_row wy _ 8 _ 41 (0, 0) HYY.out
        have v9 := cell_of_row wy _ 9 _ 41 (0, 0) HYY.out
        have v10 := cell_of_row wy _ 10 _ 41 (0, 0) HYY.out
        have v11 := cell_of_row wy _ 11 _ 41 (0, 0) HYY.out
        have v12 := cell_of_row wy _ 12 _ 41 (0, 0) HYY.out
        simp only [List.getElem?_toArray, List.getElem?_cons_zero, List.getElem?_cons_succ] at v0 v1 v2 v3 v4 v5 v6 v7 v8 v9 v10 v11 v12
        have HAL := Lib.hid (fun W => alert_any t lv b (-1) W)
        have HZ := Lib.hid hr
        cases q
        · rw [if_neg (by decide), List.append_nil] at HST
          go_wp2_with (go_at_call 41; go_loud (refine (HFT.out wy HBZ.out).mono ?_; rintro E w4 ⟨rfl, hb4⟩; have HB4 := Lib.hid (HBy.out.trans (hb4.mono HBy.out.size)); clear hb4))
          go_roundw
          case rel => exact ⟨b + 1, m, V, cv, by omega, by go_num, rfl, by rw [HST.out]; exact HM, by rw [HST.out]; exact Lib.hid (own_below HO.out HB4.out (Nat.le_refl _)), Lib.hid (HB.out.trans (HB4.out.mono hzr))⟩
          case measure => simp [intOf]; omega
        · rw [if_pos rfl] at HST
          go_wp2_with (first
            | (go_at_call 41; go_loud (refine (HFT.out wy HBZ.out).mono ?_; rintro E w4 ⟨rfl, hb4⟩; have gn0 : w4.cell? ⟨g, 0, none⟩ = some (.string t) := cell_of_row w4 g 0 _ 113 (0, 0) ((hb4.block g hgy).trans HGy.out); have gn1 : w4.cell? ⟨g, 1, none⟩ = some (.int .i64 lv) := cell_of_row w4 g 1 _ 113 (0, 0) ((hb4.block g hgy).trans HGy.out); have HB4 := Lib.hid (HBy.out.trans (hb4.mono HBy.out.size)); have HO4 := Lib.hid (own_below HOy.out hb4 (Nat.le_refl _)); clear hb4))
            | (go_at_call 107; go_loud (refine (HAL.out _).mono ?_; rintro E w5 ⟨rfl, hb5⟩; have HO5 := Lib.hid (own_below HO4.out hb5 (Nat.le_refl _)); have HB5 := Lib.hid (HB4.out.trans (hb5.mono HB4.out.size)); clear hb5))
            | (at_builtin; go_loud (refine wpList_append_oneN w5 w5.heap.size rfl #[.string t, .int .i64 lv, .int .i64 (b : Int), .int .i64 (-1)] rfl (.tmp 24) (.tmp 29) 35 rfl wb.heap.size 51 i51 (.agg #[.string ByteArray.empty, .int .i64 0, .int .i64 0, .int .i64 0]) 4 40 Try.underlying35 E0 E1 E2 E3 rfl (by decide) (.slice V m cv) m _ rfl HO5.out rfl rfl (by simp [Value.oneCell']) (by omega) (by decide) (by have := HB.out.size; have := HB5.out.size; omega) ?_); intro g6 cap6 w6 hv6 hg6 hat6 hlt6))
          go_roundw
          case rel =>
            refine ⟨b + 1, m + 1, some ⟨g6, 0, none⟩, cap6, by omega, by go_num, rfl, ?_, ?_, ?_⟩
            · exact Lib.hid (by rw [HST.out, List.length_append, HM.out]; rfl)
            · exact Lib.hid (by rw [HST.out, rowsV_append]; exact hv6)
            · exact Lib.hid (below_app (HB.out.trans (HB5.out.mono hzr)) (by have := HB5.out.size; omega) HO5.out (Nat.le_refl _) hg6)
          case measure => simp [intOf]; omega
      · obtain rfl : n = b := by omega
        go_wp2
        go_ret
        refine ⟨⟨V, cv, by first | (rw [HR.out, HM.out]; done) | (rw [HR.out, HM.out]; rfl), ?_⟩, ?_⟩
        · rw [HR.out, HM.out]
          exact own_base HO.out (by first | exact HBb.out.size | (rw [HG.out]; omega))
        · first | exact HBb.out.trans (HB.out.mono HBb.out.size) | (rw [← HG.out]; exact HBb.out.trans (HB.out.mono HBb.out.size))
  · have hpd : (ce == 0) = false := beq_eq_false_iff_ne.2 hce
    have hpe : (ce != 0) = true := bne_iff_ne.2 hce
    rw [if_neg hce] at HR
    clear HT0 hck
    go_enter Try.func108, Try.ntmps108
    go_wp2_with (go_at_call 10; go_loud (refine HCH.out.mono ?_; rintro E wb ⟨rfl, hbc⟩; have HBC := Lib.hid (HBW.out.trans (hbc.mono HBW.out.size)); clear hbc))
    go_ret
    refine ⟨⟨none, 0, by rw [HR.out]; rfl, by rw [HR.out]; exact World.ownsRow_nil _ _ _ _⟩, ?_⟩
    first | exact HBC.out | (rw [← HG.out]; exact HBC.out)

set_option maxRecDepth 100000 in
set_option maxHeartbeats 16000000 in
theorem sing46 (t : ByteArray) (lv : Int) (p : Nat) (f : Tr → Bool) (s : Sc) (w : World) (hS : s.at_ w w.heap.size)
    (hf : ∀ (W : World) (b : Nat), b < s.n → checkE s = 0 → Below w.heap.size w W → Calls Try.prog 46 #[s.val, trV (s.T b), .pointer (some ⟨p, 0, none⟩)] W fun e w' => e = .returned (.bool (f (s.T b))) ∧ Below W.heap.size W w') :
    Calls Try.prog 108 #[.agg #[.string t, .int .i64 lv, .func (.func 46) #[] #[.pointer (some ⟨p, 0, none⟩)]], s.val] w (AlsP (singA s t lv f) w) := by
  have HR : Hid (singA s t lv f = if checkE s = 0 then singL s.T t lv f s.n else []) := Lib.hid rfl
  unfold AlsP
  generalize singA s t lv f = R at *
  obtain ⟨w1, hw1⟩ : ∃ W, w.alloc (.cells #[.string t, .int .i64 lv, .func (.func 46) #[] #[.pointer (some ⟨p, 0, none⟩)]] 113) = W := ⟨_, rfl⟩
  obtain ⟨w2, hw2⟩ : ∃ W, w1.alloc (.cells #[.int .i64 s.tm, .slice s.A s.n s.c, .slice s.B s.m s.d] 25) = W := ⟨_, rfl⟩
  have hb1 : Below w.heap.size w w1 := by rw [← hw1]; exact (Below.refl _ _).alloc (Nat.le_refl _) _
  have hb2 : Below w1.heap.size w1 w2 := by rw [← hw2]; exact (Below.refl _ _).alloc (Nat.le_refl _) _
  have hs1 : w1.heap.size = w.heap.size + 1 := by rw [← hw1]; simp
  have hs2 : w2.heap.size = w.heap.size + 1 + 1 := by rw [← hw2]; simp [hs1]
  have hb12 := hb1.trans (hb2.mono hb1.size)
  have hyg : w2.heap[w.heap.size]? = some (.cells #[.string t, .int .i64 lv, .func (.func 46) #[] #[.pointer (some ⟨p, 0, none⟩)]] 113 (0, 0)) := (hb2.block w.heap.size (by omega)).trans (by rw [← hw1]; exact heap_alloc_new _ _)
  have hyc : w2.heap[w1.heap.size]? = some (.cells #[.int .i64 s.tm, .slice s.A s.n s.c, .slice s.B s.m s.d] 25 (0, 0)) := by rw [← hw2]; exact heap_alloc_new _ _
  have HCH := Lib.hid (Check_any s w2 (hS.step hb12))
  have HT0 := Lib.hid ((hS.step hb12).2.1)
  have hck : checkE s = 0 → s.n ≤ 32 := fun h => (checkE_zero h).1
  have HF := Lib.hid hf
  generalize checkE s = ce at *
  unfold Sc.val at *
  obtain ⟨tm, A, n, c, B, mm, d, T, V⟩ := s
  dsimp only at *
  have hl0 : w.heap.size < w2.heap.size := by omega
  have hl1 : w1.heap.size < w2.heap.size := by omega
  clear hS hb1 hb2 hf
  obtain ⟨g, hg⟩ : ∃ g, w.heap.size = g := ⟨_, rfl⟩
  obtain ⟨k, hk⟩ : ∃ k, w1.heap.size = k := ⟨_, rfl⟩
  rw [hg] at hyg hl0
  rw [hk] at hyc hl1
  have HG := Lib.hid hg
  have HBW := Lib.hid hb12
  have HGY := Lib.hid hyg
  have HKY := Lib.hid hyc
  have c0 : w2.cell? ⟨k, 0, none⟩ = some (.int .i64 tm) := cell_of_row w2 _ 0 _ 25 (0, 0) hyc
  have c1 : w2.cell? ⟨k, 1, none⟩ = some (.slice A n c) := cell_of_row w2 _ 1 _ 25 (0, 0) hyc
  have c2 : w2.cell? ⟨k, 2, none⟩ = some (.slice B mm d) := cell_of_row w2 _ 2 _ 25 (0, 0) hyc
  clear hb12 hyg hyc hs1 hs2
  by_cases hce : ce = 0
  · subst hce
    rw [if_pos rfl] at HR
    have hn := hck rfl
    clear hck
    obtain ⟨i51, E0, E1, E2, E3⟩ := info_parts alert_info
    have hn0 : (0 : Int) ≤ (n : Int) := by omega
    go_enter Try.func108, Try.ntmps108
    go_wp2_with (go_at_call 10; go_loud (refine HCH.out.mono ?_; rintro E wb ⟨rfl, hbc⟩; have HBC := Lib.hid hbc; have k1 : wb.cell? ⟨k, 1, none⟩ = some (.slice A n c) := (hbc.cell (p := ⟨k, 1, none⟩) hl1).trans c1; have hzb := hbc.size; clear hbc))
    have HGb := Lib.hid ((HBC.out.block g hl0).trans HGY.out)
    have HKb := Lib.hid ((HBC.out.block k hl1).trans HKY.out)
    have HTb := Lib.hid ((HT0.out.below HBC.out).more hzb)
    have HBb := Lib.hid (HBW.out.trans (HBC.out.mono HBW.out.size))
    have hgb : g < wb.heap.size := by omega
    have hkb : k < wb.heap.size := by omega
    clear HT0 HCH c0 c1 c2 HGY HKY HBC HBW
    go_loopw [5, 14] (fun v x wr => ∃ (b m : Nat) (V : Option Addr) (cv : Nat), b ≤ n ∧ x = .int .i64 (b : Int) ∧ v = .slice V m cv ∧ Hid ((singL T t lv f b).length = m) ∧ Hid (wr.ownsRow wb.heap.size 51 4 (.slice V m cv) m (rowsV alL (singL T t lv f b))) ∧ Hid (Below wb.heap.size wb wr)) (fun _ x _ => n - (intOf x).toNat)
    case atStart => exact ⟨0, 0, none, 0, by omega, rfl, rfl, Lib.hid rfl, Lib.hid (World.ownsRow_nil _ _ _ _), Lib.hid (Below.refl _ _)⟩
    case round =>
      obtain ⟨b, m, V, cv, hbn, rfl, rfl, HM, HO, HB⟩ := hrel
      have hzr := HB.out.size
      by_cases hlt : b < n
      · obtain ⟨bb, off, rfl, hbb, hr⟩ := HTb.out (by omega)
        have hcs : ∀ i v, (trL (T b))[i]? = some v → wr.cell? ⟨bb, off + b * 13 + i, none⟩ = some v := fun i v hv => (HB.out.cell (p := ⟨bb, off + b * 13 + i, none⟩) hbb).trans (hr b hlt i v hv)
        have hml : m ≤ b := by have h1 := HM.out; have h2 := singL_len T t lv f b; omega
        have HST := Lib.hid (singL_step T t lv f b)
        have hft : ∀ W, Below w.heap.size w W → _ := fun W hb => HF.out W b hlt (by trivial) hb
        obtain ⟨u, hu⟩ : ∃ u, T b = u := ⟨_, rfl⟩
        rw [hu] at hcs HST hft
        clear hu hr
        obtain ⟨y0, y1, y2, y3, y4, y5, y6, y7, y8, y9, y10, y11, y12⟩ := u
        have dy0 : wr.cell? ⟨bb, off + b * 13, none⟩ = some (.int .i64 y0) := hcs 0 _ rfl
        have dy1 : wr.cell? ⟨bb, off + b * 13 + 1, none⟩ = some (.int .i64 y1) := hcs 1 _ rfl
        have dy2 : wr.cell? ⟨bb, off + b * 13 + 2, none⟩ = some (.int .i64 y2) := hcs 2 _ rfl
        have dy3 : wr.cell? ⟨bb, off + b * 13 + 3, none⟩ = some (.int .i64 y3) := hcs 3 _ rfl
        have dy4 : wr.cell? ⟨bb, off + b * 13 + 4, none⟩ = some (.int .i64 y4) := hcs 4 _ rfl
        have dy5 : wr.cell? ⟨bb, off + b * 13 + 5, none⟩ = some (.int .i64 y5) := hcs 5 _ rfl
        have dy6 : wr.cell? ⟨bb, off + b * 13 + 6, none⟩ = some (.int .i64 y6) := hcs 6 _ rfl
        have dy7 : wr.cell? ⟨bb, off + b * 13 + 7, none⟩ = some (.int .i64 y7) := hcs 7 _ rfl
        have dy8 : wr.cell? ⟨bb, off + b * 13 + 8, none⟩ = some (.int .i64 y8) := hcs 8 _ rfl
        have dy9 : wr.cell? ⟨bb, off + b * 13 + 9, none⟩ = some (.int .i64 y9) := hcs 9 _ rfl
        have dy10 : wr.cell? ⟨bb, off + b * 13 + 10, none⟩ = some (.int .i64 y10) := hcs 10 _ rfl
        have dy11 : wr.cell? ⟨bb, off + b * 13 + 11, none⟩ = some (.int .i64 y11) := hcs 11 _ rfl
        have dy12 : wr.cell? ⟨bb, off + b * 13 + 12, none⟩ = some (.int .i64 y12) := hcs 12 _ rfl
        clear hcs
        have HFT := Lib.hid hft
        unfold trV at HFT
        dsimp only at HFT
        clear hft
        obtain ⟨q, hq⟩ : ∃ q, f ⟨y0, y1, y2, y3, y4, y5, y6, y7, y8, y9, y10, y11, y12⟩ = q := ⟨_, rfl⟩
        rw [hq] at HFT HST
        clear hq
        have l1 : (b : Int) < (n : Int) := by omega
        have l0 : (0 : Int) ≤ (b : Int) := by omega
        have hwb : IntKind.i64.wrap ((b : Int) + 1) = (b : Int) + 1 := IntWalk.i64_in _ (by omega)
        obtain ⟨wy, hwy⟩ : ∃ W, wr.alloc (.cells #[.int .i64 y0, .int .i64 y1, .int .i64 y2, .int .i64 y3, .int .i64 y4, .int .i64 y5, .int .i64 y6, .int .i64 y7, .int .i64 y8, .int .i64 y9, .int .i64 y10, .int .i64 y11, .int .i64 y12] 41) = W := ⟨_, rfl⟩
        have hby : Below wr.heap.size wr wy := by rw [← hwy]; exact (Below.refl _ _).alloc (Nat.le_refl _) _
        have hyy : wy.heap[wr.heap.size]? = some (.cells #[.int .i64 y0, .int .i64 y1, .int .i64 y2, .int .i64 y3, .int .i64 y4, .int .i64 y5, .int .i64 y6, .int .i64 y7, .int .i64 y8, .int .i64 y9, .int .i64 y10, .int .i64 y11, .int .i64 y12] 41 (0, 0)) := by rw [← hwy]; exact heap_alloc_new _ _
        have hly : wr.heap.size < wy.heap.size := by rw [← hwy]; simp
        have hkr : k < wr.heap.size := by omega
        have hgr : g < wr.heap.size := by omega
        have HYY := Lib.hid hyy
        have HOy := Lib.hid (own_below HO.out hby (Nat.le_refl _))
        have HBy := Lib.hid (hby)
        have ky := (hby.block k hkr).trans ((HB.out.block k hkb).trans HKb.out)
        have gy := (hby.block g hgr).trans ((HB.out.block g hgb).trans HGb.out)
        have HBZ := Lib.hid (HBb.out.trans ((HB.out.trans (hby.mono hzr)).mono HBb.out.size))
        have a0 : wy.cell? ⟨k, 0, none⟩ = some (.int .i64 tm) := cell_of_row wy _ 0 _ 25 (0, 0) ky
        have a1 : wy.cell? ⟨k, 1, none⟩ = some (.slice (some ⟨bb, off, none⟩) n c) := cell_of_row wy _ 1 _ 25 (0, 0) ky
        have a2 : wy.cell? ⟨k, 2, none⟩ = some (.slice B mm d) := cell_of_row wy _ 2 _ 25 (0, 0) ky
        have a3 : wy.cell? ⟨g, 2, none⟩ = some (.func (.func 46) #[] #[.pointer (some ⟨p, 0, none⟩)]) := cell_of_row wy _ 2 _ 113 (0, 0) gy
        have HGy := Lib.hid gy
        have hgy : g < wy.heap.size := by omega
        clear hby hyy ky gy
        obtain ⟨r, hr⟩ : ∃ r, wr.heap.size = r := ⟨_, rfl⟩
        rw [hr] at HYY hly
        have v0 := cell_of_row wy _ 0 _ 41 (0, 0) HYY.out
        have v1 := cell_of_row wy _ 1 _ 41 (0, 0) HYY.out
        have v2 := cell_of_row wy _ 2 _ 41 (0, 0) HYY.out
        have v3 := cell_of_row wy _ 3 _ 41 (0, 0) HYY.out
        have v4 := cell_of_row wy _ 4 _ 41 (0, 0) HYY.out
        have v5 := cell_of_row wy _ 5 _ 41 (0, 0) HYY.out
        have v6 := cell_of_row wy _ 6 _ 41 (0, 0) HYY.out
        have v7 := cell_of_row wy _ 7 _ 41 (0, 0) HYY.out
        have v8 := cell_of_row wy _ 8 _ 41 (0, 0) HYY.out
        have v9 := cell_of_row wy _ 9 _ 41 (0, 0) HYY.out
        have v10 := cell_of_row wy _ 10 _ 41 (0, 0) HYY.out
        have v11 := cell_of_row wy _ 11 _ 41 (0, 0) HYY.out
        have v12 := cell_of_row wy _ 12 _ 41 (0, 0) HYY.out
        simp only [List.getElem?_toArray, List.getElem?_cons_zero, List.getElem?_cons_succ] at v0 v1 v2 v3 v4 v5 v6 v7 v8 v9 v10 v11 v12
        have HAL := Lib.hid (fun W => alert_any t lv b (-1) W)
        have HZ := Lib.hid hr
        cases q
        · rw [if_neg (by decide), List.append_nil] at HST
          go_wp2_with (go_at_call 46; go_loud (refine (HFT.out wy HBZ.out).mono ?_; rintro E w4 ⟨rfl, hb4⟩; have HB4 := Lib.hid (HBy.out.trans (hb4.mono HBy.out.size)); clear hb4))
          go_roundw
          case rel => exact ⟨b + 1, m, V, cv, by omega, by go_num, rfl, by rw [HST.out]; exact HM, by rw [HST.out]; exact Lib.hid (own_below HO.out HB4.out (Nat.le_refl _)), Lib.hid (HB.out.trans (HB4.out.mono hzr))⟩
          case measure => simp [intOf]; omega
        · rw [if_pos rfl] at HST
          go_wp2_with (first
            | (go_at_call 46; go_loud (refine (HFT.out wy HBZ.out).mono ?_; rintro E w4 ⟨rfl, hb4⟩; have gn0 : w4.cell? ⟨g, 0, none⟩ = some (.string t) := cell_of_row w4 g 0 _ 113 (0, 0) ((hb4.block g hgy).trans HGy.out); have gn1 : w4.cell? ⟨g, 1, none⟩ = some (.int .i64 lv) := cell_of_row w4 g 1 _ 113 (0, 0) ((hb4.block g hgy).trans HGy.out); have HB4 := Lib.hid (HBy.out.trans (hb4.mono HBy.out.size)); have HO4 := Lib.hid (own_below HOy.out hb4 (Nat.le_refl _)); clear hb4))
            | (go_at_call 107; go_loud (refine (HAL.out _).mono ?_; rintro E w5 ⟨rfl, hb5⟩; have HO5 := Lib.hid (own_below HO4.out hb5 (Nat.le_refl _)); have HB5 := Lib.hid (HB4.out.trans (hb5.mono HB4.out.size)); clear hb5))
            | (at_builtin; go_loud (refine wpList_append_oneN w5 w5.heap.size rfl #[.string t, .int .i64 lv, .int .i64 (b : Int), .int .i64 (-1)] rfl (.tmp 24) (.tmp 29) 35 rfl wb.heap.size 51 i51 (.agg #[.string ByteArray.empty, .int .i64 0, .int .i64 0, .int .i64 0]) 4 40 Try.underlying35 E0 E1 E2 E3 rfl (by decide) (.slice V m cv) m _ rfl HO5.out rfl rfl (by simp [Value.oneCell']) (by omega) (by decide) (by have := HB.out.size; have := HB5.out.size; omega) ?_); intro g6 cap6 w6 hv6 hg6 hat6 hlt6))
          go_roundw
          case rel =>
            refine ⟨b + 1, m + 1, some ⟨g6, 0, none⟩, cap6, by omega, by go_num, rfl, ?_, ?_, ?_⟩
            · exact Lib.hid (by rw [HST.out, List.length_append, HM.out]; rfl)
            · exact Lib.hid (by rw [HST.out, rowsV_append]; exact hv6)
            · exact Lib.hid (below_app (HB.out.trans (HB5.out.mono hzr)) (by have := HB5.out.size; omega) HO5.out (Nat.le_refl _) hg6)
          case measure => simp [intOf]; omega
      · obtain rfl : n = b := by omega
        go_wp2
        go_ret
        refine ⟨⟨V, cv, by first | (rw [HR.out, HM.out]; done) | (rw [HR.out, HM.out]; rfl), ?_⟩, ?_⟩
        · rw [HR.out, HM.out]
          exact own_base HO.out (by first | exact HBb.out.size | (rw [HG.out]; omega))
        · first | exact HBb.out.trans (HB.out.mono HBb.out.size) | (rw [← HG.out]; exact HBb.out.trans (HB.out.mono HBb.out.size))
  · have hpd : (ce == 0) = false := beq_eq_false_iff_ne.2 hce
    have hpe : (ce != 0) = true := bne_iff_ne.2 hce
    rw [if_neg hce] at HR
    clear HT0 hck
    go_enter Try.func108, Try.ntmps108
    go_wp2_with (go_at_call 10; go_loud (refine HCH.out.mono ?_; rintro E wb ⟨rfl, hbc⟩; have HBC := Lib.hid (HBW.out.trans (hbc.mono HBW.out.size)); clear hbc))
    go_ret
    refine ⟨⟨none, 0, by rw [HR.out]; rfl, by rw [HR.out]; exact World.ownsRow_nil _ _ _ _⟩, ?_⟩
    first | exact HBC.out | (rw [← HG.out]; exact HBC.out)

set_option maxRecDepth 100000 in
set_option maxHeartbeats 16000000 in
theorem sing48 (t : ByteArray) (lv : Int) (f : Tr → Bool) (s : Sc) (w : World) (hS : s.at_ w w.heap.size)
    (hf : ∀ (W : World) (b : Nat), b < s.n → checkE s = 0 → Below w.heap.size w W → Calls Try.prog 48 #[s.val, trV (s.T b)] W fun e w' => e = .returned (.bool (f (s.T b))) ∧ Below W.heap.size W w') :
    Calls Try.prog 108 #[.agg #[.string t, .int .i64 lv, .func (.func 48) #[] #[]], s.val] w (AlsP (singA s t lv f) w) := by
  have HR : Hid (singA s t lv f = if checkE s = 0 then singL s.T t lv f s.n else []) := Lib.hid rfl
  unfold AlsP
  generalize singA s t lv f = R at *
  obtain ⟨w1, hw1⟩ : ∃ W, w.alloc (.cells #[.string t, .int .i64 lv, .func (.func 48) #[] #[]] 113) = W := ⟨_, rfl⟩
  obtain ⟨w2, hw2⟩ : ∃ W, w1.alloc (.cells #[.int .i64 s.tm, .slice s.A s.n s.c, .slice s.B s.m s.d] 25) = W := ⟨_, rfl⟩
  have hb1 : Below w.heap.size w w1 := by rw [← hw1]; exact (Below.refl _ _).alloc (Nat.le_refl _) _
  have hb2 : Below w1.heap.size w1 w2 := by rw [← hw2]; exact (Below.refl _ _).alloc (Nat.le_refl _) _
  have hs1 : w1.heap.size = w.heap.size + 1 := by rw [← hw1]; simp
  have hs2 : w2.heap.size = w.heap.size + 1 + 1 := by rw [← hw2]; simp [hs1]
  have hb12 := hb1.trans (hb2.mono hb1.size)
  have hyg : w2.heap[w.heap.size]? = some (.cells #[.string t, .int .i64 lv, .func (.func 48) #[] #[]] 113 (0, 0)) := (hb2.block w.heap.size (by omega)).trans (by rw [← hw1]; exact heap_alloc_new _ _)
  have hyc : w2.heap[w1.heap.size]? = some (.cells #[.int .i64 s.tm, .slice s.A s.n s.c, .slice s.B s.m s.d] 25 (0, 0)) := by rw [← hw2]; exact heap_alloc_new _ _
  have HCH := Lib.hid (Check_any s w2 (hS.step hb12))
  have HT0 := Lib.hid ((hS.step hb12).2.1)
  have hck : checkE s = 0 → s.n ≤ 32 := fun h => (checkE_zero h).1
  have HF := Lib.hid hf
  generalize checkE s = ce at *
  unfold Sc.val at *
  obtain ⟨tm, A, n, c, B, mm, d, T, V⟩ := s
  dsimp only at *
  have hl0 : w.heap.size < w2.heap.size := by omega
  have hl1 : w1.heap.size < w2.heap.size := by omega
  clear hS hb1 hb2 hf
  obtain ⟨g, hg⟩ : ∃ g, w.heap.size = g := ⟨_, rfl⟩
  obtain ⟨k, hk⟩ : ∃ k, w1.heap.size = k := ⟨_, rfl⟩
  rw [hg] at hyg hl0
  rw [hk] at hyc hl1
  have HG := Lib.hid hg
  have HBW := Lib.hid hb12
  have HGY := Lib.hid hyg
  have HKY := Lib.hid hyc
  have c0 : w2.cell? ⟨k, 0, none⟩ = some (.int .i64 tm) := cell_of_row w2 _ 0 _ 25 (0, 0) hyc
  have c1 : w2.cell? ⟨k, 1, none⟩ = some (.slice A n c) := cell_of_row w2 _ 1 _ 25 (0, 0) hyc
  have c2 : w2.cell? ⟨k, 2, none⟩ = some (.slice B mm d) := cell_of_row w2 _ 2 _ 25 (0, 0) hyc
  clear hb12 hyg hyc hs1 hs2
  by_cases hce : ce = 0
  · subst hce
    rw [if_pos rfl] at HR
    have hn := hck rfl
    clear hck
    obtain ⟨i51, E0, E1, E2, E3⟩ := info_parts alert_info
    have hn0 : (0 : Int) ≤ (n : Int) := by omega
    go_enter Try.func108, Try.ntmps108
    go_wp2_with (go_at_call 10; go_loud (refine HCH.out.mono ?_; rintro E wb ⟨rfl, hbc⟩; have HBC := Lib.hid hbc; have k1 : wb.cell? ⟨k, 1, none⟩ = some (.slice A n c) := (hbc.cell (p := ⟨k, 1, none⟩) hl1).trans c1; have hzb := hbc.size; clear hbc))
    have HGb := Lib.hid ((HBC.out.block g hl0).trans HGY.out)
    have HKb := Lib.hid ((HBC.out.block k hl1).trans HKY.out)
    have HTb := Lib.hid ((HT0.out.below HBC.out).more hzb)
    have HBb := Lib.hid (HBW.out.trans (HBC.out.mono HBW.out.size))
    have hgb : g < wb.heap.size := by omega
    have hkb : k < wb.heap.size := by omega
    clear HT0 HCH c0 c1 c2 HGY HKY HBC HBW
    go_loopw [5, 14] (fun v x wr => ∃ (b m : Nat) (V : Option Addr) (cv : Nat), b ≤ n ∧ x = .int .i64 (b : Int) ∧ v = .slice V m cv ∧ Hid ((singL T t lv f b).length = m) ∧ Hid (wr.ownsRow wb.heap.size 51 4 (.slice V m cv) m (rowsV alL (singL T t lv f b))) ∧ Hid (Below wb.heap.size wb wr)) (fun _ x _ => n - (intOf x).toNat)
    case atStart => exact ⟨0, 0, none, 0, by omega, rfl, rfl, Lib.hid rfl, Lib.hid (World.ownsRow_nil _ _ _ _), Lib.hid (Below.refl _ _)⟩
    case round =>
      obtain ⟨b, m, V, cv, hbn, rfl, rfl, HM, HO, HB⟩ := hrel
      have hzr := HB.out.size
      by_cases hlt : b < n
      · obtain ⟨bb, off, rfl, hbb, hr⟩ := HTb.out (by omega)
        have hcs : ∀ i v, (trL (T b))[i]? = some v → wr.cell? ⟨bb, off + b * 13 + i, none⟩ = some v := fun i v hv => (HB.out.cell (p := ⟨bb, off + b * 13 + i, none⟩) hbb).trans (hr b hlt i v hv)
        have hml : m ≤ b := by have h1 := HM.out; have h2 := singL_len T t lv f b; omega
        have HST := Lib.hid (singL_step T t lv f b)
        have hft : ∀ W, Below w.heap.size w W → _ := fun W hb => HF.out W b hlt (by trivial) hb
        obtain ⟨u, hu⟩ : ∃ u, T b = u := ⟨_, rfl⟩
        rw [hu] at hcs HST hft
        clear hu hr
        obtain ⟨y0, y1, y2, y3, y4, y5, y6, y7, y8, y9, y10, y11, y12⟩ := u
        have dy0 : wr.cell? ⟨bb, off + b * 13, none⟩ = some (.int .i64 y0) := hcs 0 _ rfl
        have dy1 : wr.cell? ⟨bb, off + b * 13 + 1, none⟩ = some (.int .i64 y1) := hcs 1 _ rfl
        have dy2 : wr.cell? ⟨bb, off + b * 13 + 2, none⟩ = some (.int .i64 y2) := hcs 2 _ rfl
        have dy3 : wr.cell? ⟨bb, off + b * 13 + 3, none⟩ = some (.int .i64 y3) := hcs 3 _ rfl
        have dy4 : wr.cell? ⟨bb, off + b * 13 + 4, none⟩ = some (.int .i64 y4) := hcs 4 _ rfl
        have dy5 : wr.cell? ⟨bb, off + b * 13 + 5, none⟩ = some (.int .i64 y5) := hcs 5 _ rfl
        have dy6 : wr.cell? ⟨bb, off + b * 13 + 6, none⟩ = some (.int .i64 y6) := hcs 6 _ rfl
        have dy7 : wr.cell? ⟨bb, off + b * 13 + 7, none⟩ = some (.int .i64 y7) := hcs 7 _ rfl
        have dy8 : wr.cell? ⟨bb, off + b * 13 + 8, none⟩ = some (.int .i64 y8) := hcs 8 _ rfl
        have dy9 : wr.cell? ⟨bb, off + b * 13 + 9, none⟩ = some (.int .i64 y9) := hcs 9 _ rfl
        have dy10 : wr.cell? ⟨bb, off + b * 13 + 10, none⟩ = some (.int .i64 y10) := hcs 10 _ rfl
        have dy11 : wr.cell? ⟨bb, off + b * 13 + 11, none⟩ = some (.int .i64 y11) := hcs 11 _ rfl
        have dy12 : wr.cell? ⟨bb, off + b * 13 + 12, none⟩ = some (.int .i64 y12) := hcs 12 _ rfl
        clear hcs
        have HFT := Lib.hid hft
        unfold trV at HFT
        dsimp only at HFT
        clear hft
        obtain ⟨q, hq⟩ : ∃ q, f ⟨y0, y1, y2, y3, y4, y5, y6, y7, y8, y9, y10, y11, y12⟩ = q := ⟨_, rfl⟩
        rw [hq] at HFT HST
        clear hq
        have l1 : (b : Int) < (n : Int) := by omega
        have l0 : (0 : Int) ≤ (b : Int) := by omega
        have hwb : IntKind.i64.wrap ((b : Int) + 1) = (b : Int) + 1 := IntWalk.i64_in _ (by omega)
        obtain ⟨wy, hwy⟩ : ∃ W, wr.alloc (.cells #[.int .i64 y0, .int .i64 y1, .int .i64 y2, .int .i64 y3, .int .i64 y4, .int .i64 y5, .int .i64 y6, .int .i64 y7, .int .i64 y8, .int .i64 y9, .int .i64 y10, .int .i64 y11, .int .i64 y12] 41) = W := ⟨_, rfl⟩
        have hby : Below wr.heap.size wr wy := by rw [← hwy]; exact (Below.refl _ _).alloc (Nat.le_refl _) _
        have hyy : wy.heap[wr.heap.size]? = some (.cells #[.int .i64 y0, .int .i64 y1, .int .i64 y2, .int .i64 y3, .int .i64 y4, .int .i64 y5, .int .i64 y6, .int .i64 y7, .int .i64 y8, .int .i64 y9, .int .i64 y10, .int .i64 y11, .int .i64 y12] 41 (0, 0)) := by rw [← hwy]; exact heap_alloc_new _ _
        have hly : wr.heap.size < wy.heap.size := by rw [← hwy]; simp
        have hkr : k < wr.heap.size := by omega
        have hgr : g < wr.heap.size := by omega
        have HYY := Lib.hid hyy
        have HOy := Lib.hid (own_below HO.out hby (Nat.le_refl _))
        have HBy := Lib.hid (hby)
        have ky := (hby.block k hkr).trans ((HB.out.block k hkb).trans HKb.out)
        have gy := (hby.block g hgr).trans ((HB.out.block g hgb).trans HGb.out)
        have HBZ := Lib.hid (HBb.out.trans ((HB.out.trans (hby.mono hzr)).mono HBb.out.size))
        have a0 : wy.cell? ⟨k, 0, none⟩ = some (.int .i64 tm) := cell_of_row wy _ 0 _ 25 (0, 0) ky
        have a1 : wy.cell? ⟨k, 1, none⟩ = some (.slice (some ⟨bb, off, none⟩) n c) := cell_of_row wy _ 1 _ 25 (0, 0) ky
        have a2 : wy.cell? ⟨k, 2, none⟩ = some (.slice B mm d) := cell_of_row wy _ 2 _ 25 (0, 0) ky
        have a3 : wy.cell? ⟨g, 2, none⟩ = some (.func (.func 48) #[] #[]) := cell_of_row wy _ 2 _ 113 (0, 0) gy
        have HGy := Lib.hid gy
        have hgy : g < wy.heap.size := by omega
        clear hby hyy ky gy
        obtain ⟨r, hr⟩ : ∃ r, wr.heap.size = r := ⟨_, rfl⟩
        rw [hr] at HYY hly
        have v0 := cell_of_row wy _ 0 _ 41 (0, 0) HYY.out
        have v1 := cell_of_row wy _ 1 _ 41 (0, 0) HYY.out
        have v2 := cell_of_row wy _ 2 _ 41 (0, 0) HYY.out
        have v3 := cell_of_row wy _ 3 _ 41 (0, 0) HYY.out
        have v4 := cell_of_row wy _ 4 _ 41 (0, 0) HYY.out
        have v5 := cell_of_row wy _ 5 _ 41 (0, 0) HYY.out
        have v6 := cell_of_row wy _ 6 _ 41 (0, 0) HYY.out
        have v7 := cell_of_row wy _ 7 _ 41 (0, 0) HYY.out
        have v8 := cell_of_row wy _ 8 _ 41 (0, 0) HYY.out
        have v9 := cell_of_row wy _ 9 _ 41 (0, 0) HYY.out
        have v10 := cell_of_row wy _ 10 _ 41 (0, 0) HYY.out
        have v11 := cell_of_row wy _ 11 _ 41 (0, 0) HYY.out
        have v12 := cell_of_row wy _ 12 _ 41 (0, 0) HYY.out
        simp only [List.getElem?_toArray, List.getElem?_cons_zero, List.getElem?_cons_succ] at v0 v1 v2 v3 v4 v5 v6 v7 v8 v9 v10 v11 v12
        have HAL := Lib.hid (fun W => alert_any t lv b (-1) W)
        have HZ := Lib.hid hr
        cases q
        · rw [if_neg (by decide), List.append_nil] at HST
          go_wp2_with (go_at_call 48; go_loud (refine (HFT.out wy HBZ.out).mono ?_; rintro E w4 ⟨rfl, hb4⟩; have HB4 := Lib.hid (HBy.out.trans (hb4.mono HBy.out.size)); clear hb4))
          go_roundw
          case rel => exact ⟨b + 1, m, V, cv, by omega, by go_num, rfl, by rw [HST.out]; exact HM, by rw [HST.out]; exact Lib.hid (own_below HO.out HB4.out (Nat.le_refl _)), Lib.hid (HB.out.trans (HB4.out.mono hzr))⟩
          case measure => simp [intOf]; omega
        · rw [if_pos rfl] at HST
          go_wp2_with (first
            | (go_at_call 48; go_loud (refine (HFT.out wy HBZ.out).mono ?_; rintro E w4 ⟨rfl, hb4⟩; have gn0 : w4.cell? ⟨g, 0, none⟩ = some (.string t) := cell_of_row w4 g 0 _ 113 (0, 0) ((hb4.block g hgy).trans HGy.out); have gn1 : w4.cell? ⟨g, 1, none⟩ = some (.int .i64 lv) := cell_of_row w4 g 1 _ 113 (0, 0) ((hb4.block g hgy).trans HGy.out); have HB4 := Lib.hid (HBy.out.trans (hb4.mono HBy.out.size)); have HO4 := Lib.hid (own_below HOy.out hb4 (Nat.le_refl _)); clear hb4))
            | (go_at_call 107; go_loud (refine (HAL.out _).mono ?_; rintro E w5 ⟨rfl, hb5⟩; have HO5 := Lib.hid (own_below HO4.out hb5 (Nat.le_refl _)); have HB5 := Lib.hid (HB4.out.trans (hb5.mono HB4.out.size)); clear hb5))
            | (at_builtin; go_loud (refine wpList_append_oneN w5 w5.heap.size rfl #[.string t, .int .i64 lv, .int .i64 (b : Int), .int .i64 (-1)] rfl (.tmp 24) (.tmp 29) 35 rfl wb.heap.size 51 i51 (.agg #[.string ByteArray.empty, .int .i64 0, .int .i64 0, .int .i64 0]) 4 40 Try.underlying35 E0 E1 E2 E3 rfl (by decide) (.slice V m cv) m _ rfl HO5.out rfl rfl (by simp [Value.oneCell']) (by omega) (by decide) (by have := HB.out.size; have := HB5.out.size; omega) ?_); intro g6 cap6 w6 hv6 hg6 hat6 hlt6))
          go_roundw
          case rel =>
            refine ⟨b + 1, m + 1, some ⟨g6, 0, none⟩, cap6, by omega, by go_num, rfl, ?_, ?_, ?_⟩
            · exact Lib.hid (by rw [HST.out, List.length_append, HM.out]; rfl)
            · exact Lib.hid (by rw [HST.out, rowsV_append]; exact hv6)
            · exact Lib.hid (below_app (HB.out.trans (HB5.out.mono hzr)) (by have := HB5.out.size; omega) HO5.out (Nat.le_refl _) hg6)
          case measure => simp [intOf]; omega
      · obtain rfl : n = b := by omega
        go_wp2
        go_ret
        refine ⟨⟨V, cv, by first | (rw [HR.out, HM.out]; done) | (rw [HR.out, HM.out]; rfl), ?_⟩, ?_⟩
        · rw [HR.out, HM.out]
          exact own_base HO.out (by first | exact HBb.out.size | (rw [HG.out]; omega))
        · first | exact HBb.out.trans (HB.out.mono HBb.out.size) | (rw [← HG.out]; exact HBb.out.trans (HB.out.mono HBb.out.size))
  · have hpd : (ce == 0) = false := beq_eq_false_iff_ne.2 hce
    have hpe : (ce != 0) = true := bne_iff_ne.2 hce
    rw [if_neg hce] at HR
    clear HT0 hck
    go_enter Try.func108, Try.ntmps108
    go_wp2_with (go_at_call 10; go_loud (refine HCH.out.mono ?_; rintro E wb ⟨rfl, hbc⟩; have HBC := Lib.hid (HBW.out.trans (hbc.mono HBW.out.size)); clear hbc))
    go_ret
    refine ⟨⟨none, 0, by rw [HR.out]; rfl, by rw [HR.out]; exact World.ownsRow_nil _ _ _ _⟩, ?_⟩
    first | exact HBC.out | (rw [← HG.out]; exact HBC.out)

set_option maxRecDepth 100000 in
set_option maxHeartbeats 16000000 in
theorem sing52 (t : ByteArray) (lv : Int) (f : Tr → Bool) (s : Sc) (w : World) (hS : s.at_ w w.heap.size)
    (hf : ∀ (W : World) (b : Nat), b < s.n → checkE s = 0 → Below w.heap.size w W → Calls Try.prog 52 #[s.val, trV (s.T b)] W fun e w' => e = .returned (.bool (f (s.T b))) ∧ Below W.heap.size W w') :
    Calls Try.prog 108 #[.agg #[.string t, .int .i64 lv, .func (.func 52) #[] #[]], s.val] w (AlsP (singA s t lv f) w) := by
  have HR : Hid (singA s t lv f = if checkE s = 0 then singL s.T t lv f s.n else []) := Lib.hid rfl
  unfold AlsP
  generalize singA s t lv f = R at *
  obtain ⟨w1, hw1⟩ : ∃ W, w.alloc (.cells #[.string t, .int .i64 lv, .func (.func 52) #[] #[]] 113) = W := ⟨_, rfl⟩
  obtain ⟨w2, hw2⟩ : ∃ W, w1.alloc (.cells #[.int .i64 s.tm, .slice s.A s.n s.c, .slice s.B s.m s.d] 25) = W := ⟨_, rfl⟩
  have hb1 : Below w.heap.size w w1 := by rw [← hw1]; exact (Below.refl _ _).alloc (Nat.le_refl _) _
  have hb2 : Below w1.heap.size w1 w2 := by rw [← hw2]; exact (Below.refl _ _).alloc (Nat.le_refl _) _
  have hs1 : w1.heap.size = w.heap.size + 1 := by rw [← hw1]; simp
  have hs2 : w2.heap.size = w.heap.size + 1 + 1 := by rw [← hw2]; simp [hs1]
  have hb12 := hb1.trans (hb2.mono hb1.size)
  have hyg : w2.heap[w.heap.size]? = some (.cells #[.string t, .int .i64 lv, .func (.func 52) #[] #[]] 113 (0, 0)) := (hb2.block w.heap.size (by omega)).trans (by rw [← hw1]; exact heap_alloc_new _ _)
  have hyc : w2.heap[w1.heap.size]? = some (.cells #[.int .i64 s.tm, .slice s.A s.n s.c, .slice s.B s.m s.d] 25 (0, 0)) := by rw [← hw2]; exact heap_alloc_new _ _
  have HCH := Lib.hid (Check_any s w2 (hS.step hb12))
  have HT0 := Lib.hid ((hS.step hb12).2.1)
  have hck : checkE s = 0 → s.n ≤ 32 := fun h => (checkE_zero h).1
  have HF := Lib.hid hf
  generalize checkE s = ce at *
  unfold Sc.val at *
  obtain ⟨tm, A, n, c, B, mm, d, T, V⟩ := s
  dsimp only at *
  have hl0 : w.heap.size < w2.heap.size := by omega
  have hl1 : w1.heap.size < w2.heap.size := by omega
  clear hS hb1 hb2 hf
  obtain ⟨g, hg⟩ : ∃ g, w.heap.size = g := ⟨_, rfl⟩
  obtain ⟨k, hk⟩ : ∃ k, w1.heap.size = k := ⟨_, rfl⟩
  rw [hg] at hyg hl0
  rw [hk] at hyc hl1
  have HG := Lib.hid hg
  have HBW := Lib.hid hb12
  have HGY := Lib.hid hyg
  have HKY := Lib.hid hyc
  have c0 : w2.cell? ⟨k, 0, none⟩ = some (.int .i64 tm) := cell_of_row w2 _ 0 _ 25 (0, 0) hyc
  have c1 : w2.cell? ⟨k, 1, none⟩ = some (.slice A n c) := cell_of_row w2 _ 1 _ 25 (0, 0) hyc
  have c2 : w2.cell? ⟨k, 2, none⟩ = some (.slice B mm d) := cell_of_row w2 _ 2 _ 25 (0, 0) hyc
  clear hb12 hyg hyc hs1 hs2
  by_cases hce : ce = 0
  · subst hce
    rw [if_pos rfl] at HR
    have hn := hck rfl
    clear hck
    obtain ⟨i51, E0, E1, E2, E3⟩ := info_parts alert_info
    have hn0 : (0 : Int) ≤ (n : Int) := by omega
    go_enter Try.func108, Try.ntmps108
    go_wp2_with (go_at_call 10; go_loud (refine HCH.out.mono ?_; rintro E wb ⟨rfl, hbc⟩; have HBC := Lib.hid hbc; have k1 : wb.cell? ⟨k, 1, none⟩ = some (.slice A n c) := (hbc.cell (p := ⟨k, 1, none⟩) hl1).trans c1; have hzb := hbc.size; clear hbc))
    have HGb := Lib.hid ((HBC.out.block g hl0).trans HGY.out)
    have HKb := Lib.hid ((HBC.out.block k hl1).trans HKY.out)
    have HTb := Lib.hid ((HT0.out.below HBC.out).more hzb)
    have HBb := Lib.hid (HBW.out.trans (HBC.out.mono HBW.out.size))
    have hgb : g < wb.heap.size := by omega
    have hkb : k < wb.heap.size := by omega
    clear HT0 HCH c0 c1 c2 HGY HKY HBC HBW
    go_loopw [5, 14] (fun v x wr => ∃ (b m : Nat) (V : Option Addr) (cv : Nat), b ≤ n ∧ x = .int .i64 (b : Int) ∧ v = .slice V m cv ∧ Hid ((singL T t lv f b).length = m) ∧ Hid (wr.ownsRow wb.heap.size 51 4 (.slice V m cv) m (rowsV alL (singL T t lv f b))) ∧ Hid (Below wb.heap.size wb wr)) (fun _ x _ => n - (intOf x).toNat)
    case atStart => exact ⟨0, 0, none, 0, by omega, rfl, rfl, Lib.hid rfl, Lib.hid (World.ownsRow_nil _ _ _ _), Lib.hid (Below.refl _ _)⟩
    case round =>
      obtain ⟨b, m, V, cv, hbn, rfl, rfl, HM, HO, HB⟩ := hrel
      have hzr := HB.out.size
      by_cases hlt : b < n
      · obtain ⟨bb, off, rfl, hbb, hr⟩ := HTb.out (by omega)
        have hcs : ∀ i v, (trL (T b))[i]? = some v → wr.cell? ⟨bb, off + b * 13 + i, none⟩ = some v := fun i v hv => (HB.out.cell (p := ⟨bb, off + b * 13 + i, none⟩) hbb).trans (hr b hlt i v hv)
        have hml : m ≤ b := by have h1 := HM.out; have h2 := singL_len T t lv f b; omega
        have HST := Lib.hid (singL_step T t lv f b)
        have hft : ∀ W, Below w.heap.size w W → _ := fun W hb => HF.out W b hlt (by trivial) hb
        obtain ⟨u, hu⟩ : ∃ u, T b = u := ⟨_, rfl⟩
        rw [hu] at hcs HST hft
        clear hu hr
        obtain ⟨y0, y1, y2, y3, y4, y5, y6, y7, y8, y9, y10, y11, y12⟩ := u
        have dy0 : wr.cell? ⟨bb, off + b * 13, none⟩ = some (.int .i64 y0) := hcs 0 _ rfl
        have dy1 : wr.cell? ⟨bb, off + b * 13 + 1, none⟩ = some (.int .i64 y1) := hcs 1 _ rfl
        have dy2 : wr.cell? ⟨bb, off + b * 13 + 2, none⟩ = some (.int .i64 y2) := hcs 2 _ rfl
        have dy3 : wr.cell? ⟨bb, off + b * 13 + 3, none⟩ = some (.int .i64 y3) := hcs 3 _ rfl
        have dy4 : wr.cell? ⟨bb, off + b * 13 + 4, none⟩ = some (.int .i64 y4) := hcs 4 _ rfl
        have dy5 : wr.cell? ⟨bb, off + b * 13 + 5, none⟩ = some (.int .i64 y5) := hcs 5 _ rfl
        have dy6 : wr.cell? ⟨bb, off + b * 13 + 6, none⟩ = some (.int .i64 y6) := hcs 6 _ rfl
        have dy7 : wr.cell? ⟨bb, off + b * 13 + 7, none⟩ = some (.int .i64 y7) := hcs 7 _ rfl
        have dy8 : wr.cell? ⟨bb, off + b * 13 + 8, none⟩ = some (.int .i64 y8) := hcs 8 _ rfl
        have dy9 : wr.cell? ⟨bb, off + b * 13 + 9, none⟩ = some (.int .i64 y9) := hcs 9 _ rfl
        have dy10 : wr.cell? ⟨bb, off + b * 13 + 10, none⟩ = some (.int .i64 y10) := hcs 10 _ rfl
        have dy11 : wr.cell? ⟨bb, off + b * 13 + 11, none⟩ = some (.int .i64 y11) := hcs 11 _ rfl
        have dy12 : wr.cell? ⟨bb, off + b * 13 + 12, none⟩ = some (.int .i64 y12) := hcs 12 _ rfl
        clear hcs
        have HFT := Lib.hid hft
        unfold trV at HFT
        dsimp only at HFT
        clear hft
        obtain ⟨q, hq⟩ : ∃ q, f ⟨y0, y1, y2, y3, y4, y5, y6, y7, y8, y9, y10, y11, y12⟩ = q := ⟨_, rfl⟩
        rw [hq] at HFT HST
        clear hq
        have l1 : (b : Int) < (n : Int) := by omega
        have l0 : (0 : Int) ≤ (b : Int) := by omega
        have hwb : IntKind.i64.wrap ((b : Int) + 1) = (b : Int) + 1 := IntWalk.i64_in _ (by omega)
        obtain ⟨wy, hwy⟩ : ∃ W, wr.alloc (.cells #[.int .i64 y0, .int .i64 y1, .int .i64 y2, .int .i64 y3, .int .i64 y4, .int .i64 y5, .int .i64 y6, .int .i64 y7, .int .i64 y8, .int .i64 y9, .int .i64 y10, .int .i64 y11, .int .i64 y12] 41) = W := ⟨_, rfl⟩
        have hby : Below wr.heap.size wr wy := by rw [← hwy]; exact (Below.refl _ _).alloc (Nat.le_refl _) _
        have hyy : wy.heap[wr.heap.size]? = some (.cells #[.int .i64 y0, .int .i64 y1, .int .i64 y2, .int .i64 y3, .int .i64 y4, .int .i64 y5, .int .i64 y6, .int .i64 y7, .int .i64 y8, .int .i64 y9, .int .i64 y10, .int .i64 y11, .int .i64 y12] 41 (0, 0)) := by rw [← hwy]; exact heap_alloc_new _ _
        have hly : wr.heap.size < wy.heap.size := by rw [← hwy]; simp
        have hkr : k < wr.heap.size := by omega
        have hgr : g < wr.heap.size := by omega
        have HYY := Lib.hid hyy
        have HOy := Lib.hid (own_below HO.out hby (Nat.le_refl _))
        have HBy := Lib.hid (hby)
        have ky := (hby.block k hkr).trans ((HB.out.block k hkb).trans HKb.out)
        have gy := (hby.block g hgr).trans ((HB.out.block g hgb).trans HGb.out)
        have HBZ := Lib.hid (HBb.out.trans ((HB.out.trans (hby.mono hzr)).mono HBb.out.size))
        have a0 : wy.cell? ⟨k, 0, none⟩ = some (.int .i64 tm) := cell_of_row wy _ 0 _ 25 (0, 0) ky
        have a1 : wy.cell? ⟨k, 1, none⟩ = some (.slice (some ⟨bb, off, none⟩) n c) := cell_of_row wy _ 1 _ 25 (0, 0) ky
        have a2 : wy.cell? ⟨k, 2, none⟩ = some (.slice B mm d) := cell_of_row wy _ 2 _ 25 (0, 0) ky
        have a3 : wy.cell? ⟨g, 2, none⟩ = some (.func (.func 52) #[] #[]) := cell_of_row wy _ 2 _ 113 (0, 0) gy
        have HGy := Lib.hid gy
        have hgy : g < wy.heap.size := by omega
        clear hby hyy ky gy
        obtain ⟨r, hr⟩ : ∃ r, wr.heap.size = r := ⟨_, rfl⟩
        rw [hr] at HYY hly
        have v0 := cell_of_row wy _ 0 _ 41 (0, 0) HYY.out
        have v1 := cell_of_row wy _ 1 _ 41 (0, 0) HYY.out
        have v2 := cell_of_row wy _ 2 _ 41 (0, 0) HYY.out
        have v3 := cell_of_row wy _ 3 _ 41 (0, 0) HYY.out
        have v4 := cell_of_row wy _ 4 _ 41 (0, 0) HYY.out
        have v5 := cell_of_row wy _ 5 _ 41 (0, 0) HYY.out
        have v6 := cell_of_row wy _ 6 _ 41 (0, 0) HYY.out
        have v7 := cell_of_row wy _ 7 _ 41 (0, 0) HYY.out
        have v8 := cell_of_row wy _ 8 _ 41 (0, 0) HYY.out
        have v9 := cell_of_row wy _ 9 _ 41 (0, 0) HYY.out
        have v10 := cell_of_row wy _ 10 _ 41 (0, 0) HYY.out
        have v11 := cell_of_row wy _ 11 _ 41 (0, 0) HYY.out
        have v12 := cell_of_row wy _ 12 _ 41 (0, 0) HYY.out
        simp only [List.getElem?_toArray, List.getElem?_cons_zero, List.getElem?_cons_succ] at v0 v1 v2 v3 v4 v5 v6 v7 v8 v9 v10 v11 v12
        have HAL := Lib.hid (fun W => alert_any t lv b (-1) W)
        have HZ := Lib.hid hr
        cases q
        · rw [if_neg (by decide), List.append_nil] at HST
          go_wp2_with (go_at_call 52; go_loud (refine (HFT.out wy HBZ.out).mono ?_; rintro E w4 ⟨rfl, hb4⟩; have HB4 := Lib.hid (HBy.out.trans (hb4.mono HBy.out.size)); clear hb4))
          go_roundw
          case rel => exact ⟨b + 1, m, V, cv, by omega, by go_num, rfl, by rw [HST.out]; exact HM, by rw [HST.out]; exact Lib.hid (own_below HO.out HB4.out (Nat.le_refl _)), Lib.hid (HB.out.trans (HB4.out.mono hzr))⟩
          case measure => simp [intOf]; omega
        · rw [if_pos rfl] at HST
          go_wp2_with (first
            | (go_at_call 52; go_loud (refine (HFT.out wy HBZ.out).mono ?_; rintro E w4 ⟨rfl, hb4⟩; have gn0 : w4.cell? ⟨g, 0, none⟩ = some (.string t) := cell_of_row w4 g 0 _ 113 (0, 0) ((hb4.block g hgy).trans HGy.out); have gn1 : w4.cell? ⟨g, 1, none⟩ = some (.int .i64 lv) := cell_of_row w4 g 1 _ 113 (0, 0) ((hb4.block g hgy).trans HGy.out); have HB4 := Lib.hid (HBy.out.trans (hb4.mono HBy.out.size)); have HO4 := Lib.hid (own_below HOy.out hb4 (Nat.le_refl _)); clear hb4))
            | (go_at_call 107; go_loud (refine (HAL.out _).mono ?_; rintro E w5 ⟨rfl, hb5⟩; have HO5 := Lib.hid (own_below HO4.out hb5 (Nat.le_refl _)); have HB5 := Lib.hid (HB4.out.trans (hb5.mono HB4.out.size)); clear hb5))
            | (at_builtin; go_loud (refine wpList_append_oneN w5 w5.heap.size rfl #[.string t, .int .i64 lv, .int .i64 (b : Int), .int .i64 (-1)] rfl (.tmp 24) (.tmp 29) 35 rfl wb.heap.size 51 i51 (.agg #[.string ByteArray.empty, .int .i64 0, .int .i64 0, .int .i64 0]) 4 40 Try.underlying35 E0 E1 E2 E3 rfl (by decide) (.slice V m cv) m _ rfl HO5.out rfl rfl (by simp [Value.oneCell']) (by omega) (by decide) (by have := HB.out.size; have := HB5.out.size; omega) ?_); intro g6 cap6 w6 hv6 hg6 hat6 hlt6))
          go_roundw
          case rel =>
            refine ⟨b + 1, m + 1, some ⟨g6, 0, none⟩, cap6, by omega, by go_num, rfl, ?_, ?_, ?_⟩
            · exact Lib.hid (by rw [HST.out, List.length_append, HM.out]; rfl)
            · exact Lib.hid (by rw [HST.out, rowsV_append]; exact hv6)
            · exact Lib.hid (below_app (HB.out.trans (HB5.out.mono hzr)) (by have := HB5.out.size; omega) HO5.out (Nat.le_refl _) hg6)
          case measure => simp [intOf]; omega
      · obtain rfl : n = b := by omega
        go_wp2
        go_ret
        refine ⟨⟨V, cv, by first | (rw [HR.out, HM.out]; done) | (rw [HR.out, HM.out]; rfl), ?_⟩, ?_⟩
        · rw [HR.out, HM.out]
          exact own_base HO.out (by first | exact HBb.out.size | (rw [HG.out]; omega))
        · first | exact HBb.out.trans (HB.out.mono HBb.out.size) | (rw [← HG.out]; exact HBb.out.trans (HB.out.mono HBb.out.size))
  · have hpd : (ce == 0) = false := beq_eq_false_iff_ne.2 hce
    have hpe : (ce != 0) = true := bne_iff_ne.2 hce
    rw [if_neg hce] at HR
    clear HT0 hck
    go_enter Try.func108, Try.ntmps108
    go_wp2_with (go_at_call 10; go_loud (refine HCH.out.mono ?_; rintro E wb ⟨rfl, hbc⟩; have HBC := Lib.hid (HBW.out.trans (hbc.mono HBW.out.size)); clear hbc))
    go_ret
    refine ⟨⟨none, 0, by rw [HR.out]; rfl, by rw [HR.out]; exact World.ownsRow_nil _ _ _ _⟩, ?_⟩
    first | exact HBC.out | (rw [← HG.out]; exact HBC.out)

end Go.Proofs.Ytdmecagdjbjgjaa
