/- The walk of RulesNear. -/
import Derived.Test.YtdmecagdjbjgjaaR24
import Derived.Test.YtdmecagdjbjgjaaR13
import Derived.Test.YtdmecagdjbjgjaaCut
namespace Go.Proofs.Ytdmecagdjbjgjaa
open Go.RowKit

theorem sep_near (T : Nat → Tr) (lat vert : Int) (a b : Nat) : nearP T lat vert a b = !(sepB (T a).x (T a).y (T a).h (T b).x (T b).y (T b).h lat vert) := by
  unfold nearP sepB
  generalize sqI (T a).x (T a).y (T b).x (T b).y = s
  generalize max ((T a).h - (T b).h) ((T b).h - (T a).h) = m
  by_cases h1 : s < lat * lat
  · have h1' : ¬ lat * lat ≤ s := by omega
    by_cases h2 : m < vert
    · have h2' : ¬ vert ≤ m := by omega
      simp [h1, h1', h2, h2']
    · have h2' : vert ≤ m := by omega
      simp [h1, h1', h2, h2']
  · have h1' : lat * lat ≤ s := by omega
    simp [h1, h1']

theorem near_in (T : Nat → Tr) (t : ByteArray) (lv lat vert : Int) (a b n : Nat) (hab : a < b) (hb : b < n) : decide ((⟨t, lv, a, b⟩ : Al) ∈ nearL T t lv lat vert n) = nearP T lat vert a b := by
  by_cases h : nearP T lat vert a b = true
  · rw [h, decide_eq_true_eq, nearL_mem]
    exact ⟨a, b, hab, hb, h, rfl⟩
  · rw [Bool.not_eq_true] at h
    rw [h, decide_eq_false_iff_not, nearL_mem]
    rintro ⟨a', b', h1, h2, h3, h4⟩
    injection h4 with _ _ e1 e2
    have e1 : a = a' := by omega
    have e2 : b = b' := by omega
    subst e1 e2
    rw [h] at h3; cases h3

set_option maxRecDepth 100000 in
set_option maxHeartbeats 16000000 in
theorem Near_walk (s : Sc) (p1 p2 : Int) (w : World) (hS : s.at_ w w.heap.size) : Calls Try.prog 3 #[s.val, .agg #[.int .i64 p1, .int .i64 p2]] w fun E w' => E = .returned (.bool true) ∧ Below w.heap.size w w' := by
  have C1 := Lib.hid (fun W => Cut_any p1 0 20000 W (by omega) (by omega) (by omega))
  have C2 := Lib.hid (fun W => Cut_any p2 0 3000 W (by omega) (by omega) (by omega))
  have hlat := cutI_bd (n := p1) (show (0 : Int) ≤ 20000 by omega)
  have hvert := cutI_bd (n := p2) (show (0 : Int) ≤ 3000 by omega)
  generalize cutI p1 0 20000 = lat at *
  generalize cutI p2 0 3000 = vert at *
  have HN8 := Lib.hid (fun W => Near_any lat vert W (by omega) (by omega))
  obtain ⟨w1, hw1⟩ : ∃ W, w.alloc (.cells #[.int .i64 s.tm, .slice s.A s.n s.c, .slice s.B s.m s.d] 25) = W := ⟨_, rfl⟩
  obtain ⟨w2, hw2⟩ : ∃ W, w1.alloc (.cells #[.int .i64 p1, .int .i64 p2] 27) = W := ⟨_, rfl⟩
  have hb1 : Below w.heap.size w w1 := by rw [← hw1]; exact (Below.refl _ _).alloc (Nat.le_refl _) _
  have hb2 : Below w1.heap.size w1 w2 := by rw [← hw2]; exact (Below.refl _ _).alloc (Nat.le_refl _) _
  have hs1 : w1.heap.size = w.heap.size + 1 := by rw [← hw1]; simp
  have hs2 : w2.heap.size = w.heap.size + 1 + 1 := by rw [← hw2]; simp [hs1]
  have hb12 := hb1.trans (hb2.mono hb1.size)
  have hyg : w2.heap[w.heap.size]? = some (.cells #[.int .i64 s.tm, .slice s.A s.n s.c, .slice s.B s.m s.d] 25 (0, 0)) := (hb2.block w.heap.size (by omega)).trans (by rw [← hw1]; exact heap_alloc_new _ _)
  have hyc : w2.heap[w1.heap.size]? = some (.cells #[.int .i64 p1, .int .i64 p2] 27 (0, 0)) := by rw [← hw2]; exact heap_alloc_new _ _
  have HST := Lib.hid (fun W (h : Below w.heap.size w W) => hS.step h)
  have HCH := Lib.hid (fun W (h : Below w.heap.size w W) => Check_any s W (hS.step h))
  have HAL := Lib.hid (fun W (h : Below w.heap.size w W) => nearAlerts_any ⟨#[110, 101, 97, 114]⟩ 5 lat vert s W (hS.step h) (by omega) (by omega))
  have HLL : Hid (nearA s ⟨#[110, 101, 97, 114]⟩ 5 lat vert = if checkE s = 0 then nearL s.T ⟨#[110, 101, 97, 114]⟩ 5 lat vert s.n else []) := Lib.hid rfl
  have HCK := Lib.hid (fun h : checkE s = 0 => And.intro (checkE_zero h).1 (checkE_zero h).2.2.1)
  have HTT := Lib.hid hS.2.1
  have hnc := hS.1
  have HFA := Lib.hid fact_any
  unfold AlsP at HAL
  generalize nearA s ⟨#[110, 101, 97, 114]⟩ 5 lat vert = L at *
  generalize checkE s = ce at *
  unfold Sc.val at *
  obtain ⟨tm, A, n, c, B, mm, d, T, V⟩ := s
  dsimp only at *
  clear hS HST hb1 hb2
  have hl0 : w.heap.size < w2.heap.size := by omega
  have hl1 : w1.heap.size < w2.heap.size := by omega
  obtain ⟨g, hg⟩ : ∃ g, w.heap.size = g := ⟨_, rfl⟩
  obtain ⟨g1, hg1⟩ : ∃ g, w1.heap.size = g := ⟨_, rfl⟩
  have hgg : g ≠ g1 := by omega
  rw [hg] at hyg hl0
  rw [hg1] at hyc hl1
  have HG := Lib.hid hg
  have a0 : w2.cell? ⟨g1, 0, none⟩ = some (.int .i64 p1) := cell_of_row w2 _ 0 _ 27 (0, 0) hyc
  have a1 : w2.cell? ⟨g1, 1, none⟩ = some (.int .i64 p2) := cell_of_row w2 _ 1 _ 27 (0, 0) hyc
  have hg1w : w.heap.size ≤ g1 := by omega
  have f0 : w2.frozen? ⟨g1, 0, none⟩ = false := frozen_of_row w2 g1 0 _ 27 hyc
  have f1 : w2.frozen? ⟨g1, 1, none⟩ = false := frozen_of_row w2 g1 1 _ 27 hyc
  have HB2 := Lib.hid hb12
  have HY0 := Lib.hid hyg
  have HY1 := Lib.hid hyc
  clear hb12 hyg hyc hs1 hs2
  go_enter Try.func3, Try.ntmps3
  go_wp2
  refine wp_region_still_tail 7 (by kernel_rfl) (by kernel_rfl) ?_
  simp only [List.take_succ_cons, List.take_zero, List.drop_succ_cons, List.drop_zero]
  still_step
  still_step
  still_call ((C1.out _).mono fun _ _ h => ⟨h.1, h.2.symm⟩)
  still_step
  still_step
  still_call ((C2.out _).mono fun _ _ h => ⟨h.1, h.2.symm⟩)
  still_step
  refine wpStill_nil ?_
  change wpList _ _ _ _ _ w2.drew
  go_wp2_with fail
  obtain ⟨w3, hw3, y0, y1, HB3⟩ : ∃ W3, ((w2.setCell ⟨g1, 0, none⟩ (.int .i64 lat)).setCell ⟨g1, 1, none⟩ (.int .i64 vert)).drew = W3 ∧ W3.heap[g]? = some (.cells #[.int .i64 tm, .slice A n c, .slice B mm d] 25 (0, 0)) ∧ W3.heap[g1]? = some (.cells #[.int .i64 lat, .int .i64 vert] 27 (0, 0)) ∧ Hid (Below w.heap.size w W3) :=
    ⟨_, rfl, (heap_setCell_other _ _ _ _ (by show g ≠ g1; exact hgg)).trans ((heap_setCell_other _ _ _ _ (by show g ≠ g1; exact hgg)).trans HY0.out), by have h1 := heap_setCell_same w2 g1 0 _ 27 (.int .i64 lat) HY1.out; exact heap_setCell_same _ g1 1 _ 27 (.int .i64 vert) h1, Lib.hid ((HB2.out.setCell (p := ⟨g1, 0, none⟩) hg1w _).setCell (p := ⟨g1, 1, none⟩) hg1w _).drew⟩
  rw [hw3]
  have hl0 : g < w3.heap.size := (Array.getElem?_eq_some_iff.1 y0).1
  have hl1 : g1 < w3.heap.size := (Array.getElem?_eq_some_iff.1 y1).1
  have hz30 : w2.heap.size ≤ w3.heap.size := by rw [← hw3]; simp
  clear hw3 a0 a1 f0 f1 HY0 HY1 HB2
  have HY0 := Lib.hid y0
  have HY1 := Lib.hid y1
  have b0 : w3.cell? ⟨g1, 0, none⟩ = some (.int .i64 lat) := cell_of_row w3 _ 0 _ 27 (0, 0) y1
  have b1 : w3.cell? ⟨g1, 1, none⟩ = some (.int .i64 vert) := cell_of_row w3 _ 1 _ 27 (0, 0) y1
  clear y0 y1
  go_wp2_with (first
    | (go_at_call 8; go_loud (refine (HN8.out _).mono ?_; rintro E w4 ⟨rfl, hb4⟩; have HB4 := Lib.hid hb4; clear hb4))
    | (go_at_call 9; go_loud (refine (HFA.out _).mono ?_; rintro E w5 ⟨rfl, hb5⟩; have HB5 := Lib.hid (HB4.out.trans (hb5.mono HB4.out.size)); have z5 := HB5.out.size; have HW5 := Lib.hid (HB3.out.trans (HB5.out.mono HB3.out.size)); have u5 := (HB5.out.block g hl0).trans HY0.out; have c50 : w5.cell? ⟨g, 0, none⟩ = some (.int .i64 tm) := cell_of_row w5 _ 0 _ 25 (0, 0) u5; have c51 : w5.cell? ⟨g, 1, none⟩ = some (.slice A n c) := cell_of_row w5 _ 1 _ 25 (0, 0) u5; have c52 : w5.cell? ⟨g, 2, none⟩ = some (.slice B mm d) := cell_of_row w5 _ 2 _ 25 (0, 0) u5; clear hb5 u5))
    | (go_at_call 106; go_loud (refine (HAL.out w5 HW5.out).mono ?_; rintro E w6 ⟨⟨V6, cv6, rfl, hO6⟩, hb6⟩; have HO6 := Lib.hid hO6; have HB6 := Lib.hid (HB5.out.trans (hb6.mono z5)); have z6 := HB6.out.size; have HW6 := Lib.hid (HB3.out.trans (HB6.out.mono HB3.out.size)); have u6 := (HB6.out.block g hl0).trans HY0.out; have c60 : w6.cell? ⟨g, 0, none⟩ = some (.int .i64 tm) := cell_of_row w6 _ 0 _ 25 (0, 0) u6; have c61 : w6.cell? ⟨g, 1, none⟩ = some (.slice A n c) := cell_of_row w6 _ 1 _ 25 (0, 0) u6; have c62 : w6.cell? ⟨g, 2, none⟩ = some (.slice B mm d) := cell_of_row w6 _ 2 _ 25 (0, 0) u6; clear hb6 u6 hO6 c50 c51 c52)))
  by_cases hce : ce = 0
  · subst hce
    rw [if_pos (by trivial)] at HLL
    obtain ⟨hn, hok⟩ := HCK.out (by trivial)
    have HOK := Lib.hid hok
    have hn0 : (0 : Int) ≤ (n : Int) := by omega
    clear hok
    go_wp2_with (go_at_call 10; go_loud (refine (HCH.out w6 HW6.out).mono ?_; rintro E w7 ⟨rfl, hb7⟩; have HB7 := Lib.hid (HB6.out.trans (hb7.mono z6)); have z7 := HB7.out.size; have HW7 := Lib.hid (HB3.out.trans (HB7.out.mono HB3.out.size)); have HS7 := Lib.hid (((Sl_rows alL_len HO6.out rfl (by decide)).below hb7).more hb7.size); have u7 := (HB7.out.block g hl0).trans HY0.out; have u7' := (HB7.out.block g1 hl1).trans HY1.out; have c71 : w7.cell? ⟨g, 1, none⟩ = some (.slice A n c) := cell_of_row w7 _ 1 _ 25 (0, 0) u7; have HU7 := Lib.hid u7; have HV7 := Lib.hid u7'; clear hb7 u7 u7' c60 c61 c62))
    have HT7 := Lib.hid ((HTT.out.below HW7.out).more HW7.out.size)
    obtain ⟨wb, rfl⟩ : ∃ wb, wb = w7 := ⟨_, rfl⟩
    have hgb : g < wb.heap.size := by omega
    have hg1b : g1 < wb.heap.size := by omega
    have HLn := Lib.hid (congrArg List.length HLL.out)
    generalize L.length = m6 at *
    rw [HLL.out] at HS7
    go_loopw [49] (fun x wr => ∃ b : Nat, b ≤ n ∧ x = .int .i64 (b : Int) ∧ Hid (Below wb.heap.size wb wr)) (fun x _ => n - (intOf x).toNat)
    case atStart => exact ⟨0, by omega, rfl, Lib.hid (Below.refl _ _)⟩
    case round =>
      obtain ⟨b, hbn, rfl, HB0⟩ := hrel
      have hzr := HB0.out.size
      by_cases hlt : b < n
      · obtain ⟨bb, off, rfl, hbb, hr⟩ := HT7.out (by omega)
        have hcs : ∀ i v, (trL (T b))[i]? = some v → wr.cell? ⟨bb, off + b * 13 + i, none⟩ = some v := fun i v hv => (HB0.out.cell (p := ⟨bb, off + b * 13 + i, none⟩) hbb).trans (hr b hlt i v hv)
        have HOKy := Lib.hid (HOK.out b hlt)
        have HTW := Lib.hid hr
        have HNI := Lib.hid (fun a (h : a < b) => (near_in T ⟨#[110, 101, 97, 114]⟩ 5 lat vert a b n h hlt).trans (sep_near T lat vert a b))
        have HNY := Lib.hid (fun W => node_any (T b) W)
        unfold trV at HNY
        have k1r := (HB0.out.cell (p := ⟨g, 1, none⟩) hgb).trans c71
        obtain ⟨u, hu⟩ : ∃ u, T b = u := ⟨_, rfl⟩
        rw [hu] at hcs HOKy HNI HNY
        clear hu hr
        obtain ⟨y0, y1, y2, y3, y4, y5, y6, y7, y8, y9, y10, y11, y12⟩ := u
        have dy0 : wr.cell? ⟨bb, off + b * 13, none⟩ = some (.int .i64 y0) := hcs 0 _ rfl
        have dy1 : wr.cell? ⟨bb, off + b * 13 + 1, none⟩ = some (.int .i64 y1) := hcs 1 _ rfl
        have dy2 : wr.cell? ⟨bb, off + b * 13 + 2, none⟩ = some (.int .i64 y2) := hcs 2 _ rfl
        have dy3 : wr.cell? ⟨bb, off + b * 13 + 3, none⟩ = some (.int .i64 y3) := hcs 3 _ rfl
        have dy4 : wr.cell? ⟨bb, off + b * 13 + 4, none⟩ = some (.int .i64 y4) := hcs 4 _ rfl
        have dy5 : wr.cell? ⟨bb, off + b * 13 + 5, none⟩ = some (.int .i64 y5) := hcs 5 _ rfl
        have dy6 : wr.cell? ⟨bb, off + b * 13 + 6, none⟩ = some (.int .i64 y6) := hcs 6 _ rfl
        have dy7 : wr.cell? ⟨bb, off + b * 13 + 7, none⟩ = some (.int .i64 y7) := hcs 7 _ rfl
        have dy8 : wr.cell? ⟨bb, off + b * 13 + 8, none⟩ = some (.int .i64 y8) := hcs 8 _ rfl
        have dy9 : wr.cell? ⟨bb, off + b * 13 + 9, none⟩ = some (.int .i64 y9) := hcs 9 _ rfl
        have dy10 : wr.cell? ⟨bb, off + b * 13 + 10, none⟩ = some (.int .i64 y10) := hcs 10 _ rfl
        have dy11 : wr.cell? ⟨bb, off + b * 13 + 11, none⟩ = some (.int .i64 y11) := hcs 11 _ rfl
        have dy12 : wr.cell? ⟨bb, off + b * 13 + 12, none⟩ = some (.int .i64 y12) := hcs 12 _ rfl
        clear hcs
        unfold trkOk at HOKy
        dsimp only at HOKy HNI HNY
        have l1 : (b : Int) < (n : Int) := by omega
        have l0 : (0 : Int) ≤ (b : Int) := by omega
        have hjn : (b : Int) ≤ (n : Int) := by omega
        have hbc : b ≤ c := by omega
        have hwb : IntKind.i64.wrap ((b : Int) + 1) = (b : Int) + 1 := IntWalk.i64_in _ (by omega)
        obtain ⟨wy, hwy⟩ : ∃ W, wr.alloc (.cells #[.int .i64 y0, .int .i64 y1, .int .i64 y2, .int .i64 y3, .int .i64 y4, .int .i64 y5, .int .i64 y6, .int .i64 y7, .int .i64 y8, .int .i64 y9, .int .i64 y10, .int .i64 y11, .int .i64 y12] 41) = W := ⟨_, rfl⟩
        have hby : Below wr.heap.size wr wy := by rw [← hwy]; exact (Below.refl _ _).alloc (Nat.le_refl _) _
        have hyy : wy.heap[wr.heap.size]? = some (.cells #[.int .i64 y0, .int .i64 y1, .int .i64 y2, .int .i64 y3, .int .i64 y4, .int .i64 y5, .int .i64 y6, .int .i64 y7, .int .i64 y8, .int .i64 y9, .int .i64 y10, .int .i64 y11, .int .i64 y12] 41 (0, 0)) := by rw [← hwy]; exact heap_alloc_new _ _
        have hly : wr.heap.size < wy.heap.size := by rw [← hwy]; simp
        have HYY := Lib.hid hyy
        have HBy := Lib.hid (HB0.out.trans (hby.mono hzr))
        have k1y := (hby.cell (p := ⟨g, 1, none⟩) (Nat.lt_of_lt_of_le hgb hzr)).trans k1r
        have hzy : wb.heap.size ≤ wy.heap.size := HBy.out.size
        clear hby hyy
        obtain ⟨p, hp⟩ : ∃ p, wr.heap.size = p := ⟨_, rfl⟩
        rw [hp] at HYY hly
        go_wp2
        go_loopw [59] (fun x wr => ∃ a : Nat, a ≤ b ∧ x = .int .i64 (a : Int) ∧ Hid (Below wy.heap.size wy wr)) (fun x _ => b - (intOf x).toNat)
        case atStart => exact ⟨0, by omega, rfl, Lib.hid (Below.refl _ _)⟩
        case round =>
          obtain ⟨a, hab, rfl, HB⟩ := hrel
          have hzr := HB.out.size
          have HBB := Lib.hid (HBy.out.trans (HB.out.mono HBy.out.size))
          by_cases hlt : a < b
          · have hcs : ∀ i v, (trL (T a))[i]? = some v → wr.cell? ⟨bb, off + a * 13 + i, none⟩ = some v := fun i v hv => (HBB.out.cell (p := ⟨bb, off + a * 13 + i, none⟩) hbb).trans (HTW.out a (by omega) i v hv)
            have hokx := HOK.out a (by omega)
            have hni := HNI.out a hlt
            have HNX := Lib.hid (fun W => node_any (T a) W)
            unfold trV at HNX
            obtain ⟨u, hu⟩ : ∃ u, T a = u := ⟨_, rfl⟩
            rw [hu] at hcs hokx hni HNX
            clear hu
            obtain ⟨x0, x1, x2, x3, x4, x5, x6, x7, x8, x9, x10, x11, x12⟩ := u
            have dx0 : wr.cell? ⟨bb, off + a * 13, none⟩ = some (.int .i64 x0) := hcs 0 _ rfl
            have dx1 : wr.cell? ⟨bb, off + a * 13 + 1, none⟩ = some (.int .i64 x1) := hcs 1 _ rfl
            have dx2 : wr.cell? ⟨bb, off + a * 13 + 2, none⟩ = some (.int .i64 x2) := hcs 2 _ rfl
            have dx3 : wr.cell? ⟨bb, off + a * 13 + 3, none⟩ = some (.int .i64 x3) := hcs 3 _ rfl
            have dx4 : wr.cell? ⟨bb, off + a * 13 + 4, none⟩ = some (.int .i64 x4) := hcs 4 _ rfl
            have dx5 : wr.cell? ⟨bb, off + a * 13 + 5, none⟩ = some (.int .i64 x5) := hcs 5 _ rfl
            have dx6 : wr.cell? ⟨bb, off + a * 13 + 6, none⟩ = some (.int .i64 x6) := hcs 6 _ rfl
            have dx7 : wr.cell? ⟨bb, off + a * 13 + 7, none⟩ = some (.int .i64 x7) := hcs 7 _ rfl
            have dx8 : wr.cell? ⟨bb, off + a * 13 + 8, none⟩ = some (.int .i64 x8) := hcs 8 _ rfl
            have dx9 : wr.cell? ⟨bb, off + a * 13 + 9, none⟩ = some (.int .i64 x9) := hcs 9 _ rfl
            have dx10 : wr.cell? ⟨bb, off + a * 13 + 10, none⟩ = some (.int .i64 x10) := hcs 10 _ rfl
            have dx11 : wr.cell? ⟨bb, off + a * 13 + 11, none⟩ = some (.int .i64 x11) := hcs 11 _ rfl
            have dx12 : wr.cell? ⟨bb, off + a * 13 + 12, none⟩ = some (.int .i64 x12) := hcs 12 _ rfl
            clear hcs
            unfold trkOk at hokx
            dsimp only at hokx hni HNX
            have hoky := HOKy.out
            have HSP := Lib.hid (fun W => Separated_any x3 x4 x7 y3 y4 y7 lat vert W hokx.1 hokx.2.1 hoky.1 hoky.2.1 hokx.2.2 hoky.2.2 (by omega) (by omega))
            generalize sepB x3 x4 x7 y3 y4 y7 lat vert = z at *
            have HCT := Lib.hid (fun W hs => Contains_any V6 m6 cv6 (nearL T ⟨#[110, 101, 97, 114]⟩ 5 lat vert n) ⟨⟨#[110, 101, 97, 114]⟩, 5, a, b⟩ W hs HLn.out.symm (by have := nearL_len T ⟨#[110, 101, 97, 114]⟩ 5 lat vert n (by omega); have := HLn.out; omega))
            rw [hni] at HCT
            clear hokx hoky hni
            have l1 : (a : Int) < (b : Int) := by omega
            have l0 : (0 : Int) ≤ (a : Int) := by omega
            have hwa : IntKind.i64.wrap ((a : Int) + 1) = (a : Int) + 1 := IntWalk.i64_in _ (by omega)
            obtain ⟨wx, hwx⟩ : ∃ W, wr.alloc (.cells #[.int .i64 x0, .int .i64 x1, .int .i64 x2, .int .i64 x3, .int .i64 x4, .int .i64 x5, .int .i64 x6, .int .i64 x7, .int .i64 x8, .int .i64 x9, .int .i64 x10, .int .i64 x11, .int .i64 x12] 41) = W := ⟨_, rfl⟩
            have hbx : Below wr.heap.size wr wx := by rw [← hwx]; exact (Below.refl _ _).alloc (Nat.le_refl _) _
            have hyx : wx.heap[wr.heap.size]? = some (.cells #[.int .i64 x0, .int .i64 x1, .int .i64 x2, .int .i64 x3, .int .i64 x4, .int .i64 x5, .int .i64 x6, .int .i64 x7, .int .i64 x8, .int .i64 x9, .int .i64 x10, .int .i64 x11, .int .i64 x12] 41 (0, 0)) := by rw [← hwx]; exact heap_alloc_new _ _
            have hlx : wr.heap.size < wx.heap.size := by rw [← hwx]; simp
            have hpr : p < wr.heap.size := by omega
            have hgr : g1 < wr.heap.size := by omega
            have hpx : p < wx.heap.size := by omega
            have hgx : g1 < wx.heap.size := by omega
            have HYx := Lib.hid ((hbx.block p hpr).trans ((HB.out.block p hly).trans HYY.out))
            have HGx := Lib.hid ((hbx.block g1 hgr).trans ((HBB.out.block g1 hg1b).trans HV7.out))
            have HXx := Lib.hid hyx
            have HBX := Lib.hid (HB.out.trans (hbx.mono hzr))
            have hzx : wy.heap.size ≤ wx.heap.size := HBX.out.size
            obtain ⟨q, hq⟩ : ∃ q, wr.heap.size = q := ⟨_, rfl⟩
            rw [hq] at HXx hlx
            have hqx : q < wx.heap.size := hlx
            have HSx := Lib.hid (fun W (h : Below wy.heap.size wy W) => ((HS7.out.below (HBy.out.trans (h.mono HBy.out.size))).more ((HBy.out.trans (h.mono HBy.out.size))).size))
            clear hbx hyx hpr hgr
            go_wp2
            refine wp_region_held_drew (S := (fun W => Below wx.heap.size wx W)) (by kernel_rfl) ((Below.refl _ _).drew) (fun hHeld => ?_)
            refine wpAnyH_take (i := 0) (oi := ⟨some 65, _, _, _, _, _⟩) (v := ?nv0) rfl (by kernel_rfl) (by kernel_rfl) (by kernel_rfl) (fun _ _ _ h => h) (Or.inl ⟨by rfl, ?ny0⟩) hHeld ?nr0
            case ny0 => (intro W hSw; (try dsimp only at hSw); go_simp; try with_reducible rfl)
            try simp only [Act.put, List.setIfInBounds_toArray, List.set_cons_zero, List.set_cons_succ]
            refine wpAnyH_take (i := 1) (oi := ⟨some 66, _, _, _, _, _⟩) (v := ?nv1) rfl (by kernel_rfl) (by kernel_rfl) (by kernel_rfl) (fun _ _ _ h => h) (Or.inl ⟨by rfl, ?ny1⟩) hHeld ?nr1
            case ny1 => (intro W hSw; (try dsimp only at hSw); have f0 := (hSw.cell (p := ⟨q, 0, none⟩) hqx).trans (cell_of_row wx q 0 _ 41 (0, 0) HXx.out); have f1 := (hSw.cell (p := ⟨q, 1, none⟩) hqx).trans (cell_of_row wx q 1 _ 41 (0, 0) HXx.out); have f2 := (hSw.cell (p := ⟨q, 2, none⟩) hqx).trans (cell_of_row wx q 2 _ 41 (0, 0) HXx.out); have f3 := (hSw.cell (p := ⟨q, 3, none⟩) hqx).trans (cell_of_row wx q 3 _ 41 (0, 0) HXx.out); have f4 := (hSw.cell (p := ⟨q, 4, none⟩) hqx).trans (cell_of_row wx q 4 _ 41 (0, 0) HXx.out); have f5 := (hSw.cell (p := ⟨q, 5, none⟩) hqx).trans (cell_of_row wx q 5 _ 41 (0, 0) HXx.out); have f6 := (hSw.cell (p := ⟨q, 6, none⟩) hqx).trans (cell_of_row wx q 6 _ 41 (0, 0) HXx.out); have f7 := (hSw.cell (p := ⟨q, 7, none⟩) hqx).trans (cell_of_row wx q 7 _ 41 (0, 0) HXx.out); have f8 := (hSw.cell (p := ⟨q, 8, none⟩) hqx).trans (cell_of_row wx q 8 _ 41 (0, 0) HXx.out); have f9 := (hSw.cell (p := ⟨q, 9, none⟩) hqx).trans (cell_of_row wx q 9 _ 41 (0, 0) HXx.out); have f10 := (hSw.cell (p := ⟨q, 10, none⟩) hqx).trans (cell_of_row wx q 10 _ 41 (0, 0) HXx.out); have f11 := (hSw.cell (p := ⟨q, 11, none⟩) hqx).trans (cell_of_row wx q 11 _ 41 (0, 0) HXx.out); have f12 := (hSw.cell (p := ⟨q, 12, none⟩) hqx).trans (cell_of_row wx q 12 _ 41 (0, 0) HXx.out); go_simp; try with_reducible rfl)
            try simp only [Act.put, List.setIfInBounds_toArray, List.set_cons_zero, List.set_cons_succ]
            refine wpAnyH_take (i := 3) (oi := ⟨some 68, _, _, _, _, _⟩) (v := ?nv3) rfl (by kernel_rfl) (by kernel_rfl) (by kernel_rfl) (fun _ _ _ h => h) (Or.inl ⟨by rfl, ?ny3⟩) hHeld ?nr3
            case ny3 => (intro W hSw; (try dsimp only at hSw); go_simp; try with_reducible rfl)
            try simp only [Act.put, List.setIfInBounds_toArray, List.set_cons_zero, List.set_cons_succ]
            refine wpAnyH_take (i := 4) (oi := ⟨some 69, _, _, _, _, _⟩) (v := ?nv4) rfl (by kernel_rfl) (by kernel_rfl) (by kernel_rfl) (fun _ _ _ h => h) (Or.inl ⟨by rfl, ?ny4⟩) hHeld ?nr4
            case ny4 => (intro W hSw; (try dsimp only at hSw); have f0 := (hSw.cell (p := ⟨p, 0, none⟩) hpx).trans (cell_of_row wx p 0 _ 41 (0, 0) HYx.out); have f1 := (hSw.cell (p := ⟨p, 1, none⟩) hpx).trans (cell_of_row wx p 1 _ 41 (0, 0) HYx.out); have f2 := (hSw.cell (p := ⟨p, 2, none⟩) hpx).trans (cell_of_row wx p 2 _ 41 (0, 0) HYx.out); have f3 := (hSw.cell (p := ⟨p, 3, none⟩) hpx).trans (cell_of_row wx p 3 _ 41 (0, 0) HYx.out); have f4 := (hSw.cell (p := ⟨p, 4, none⟩) hpx).trans (cell_of_row wx p 4 _ 41 (0, 0) HYx.out); have f5 := (hSw.cell (p := ⟨p, 5, none⟩) hpx).trans (cell_of_row wx p 5 _ 41 (0, 0) HYx.out); have f6 := (hSw.cell (p := ⟨p, 6, none⟩) hpx).trans (cell_of_row wx p 6 _ 41 (0, 0) HYx.out); have f7 := (hSw.cell (p := ⟨p, 7, none⟩) hpx).trans (cell_of_row wx p 7 _ 41 (0, 0) HYx.out); have f8 := (hSw.cell (p := ⟨p, 8, none⟩) hpx).trans (cell_of_row wx p 8 _ 41 (0, 0) HYx.out); have f9 := (hSw.cell (p := ⟨p, 9, none⟩) hpx).trans (cell_of_row wx p 9 _ 41 (0, 0) HYx.out); have f10 := (hSw.cell (p := ⟨p, 10, none⟩) hpx).trans (cell_of_row wx p 10 _ 41 (0, 0) HYx.out); have f11 := (hSw.cell (p := ⟨p, 11, none⟩) hpx).trans (cell_of_row wx p 11 _ 41 (0, 0) HYx.out); have f12 := (hSw.cell (p := ⟨p, 12, none⟩) hpx).trans (cell_of_row wx p 12 _ 41 (0, 0) HYx.out); go_simp; try with_reducible rfl)
            try simp only [Act.put, List.setIfInBounds_toArray, List.set_cons_zero, List.set_cons_succ]
            refine wpAnyH_take (i := 6) (oi := ⟨some 71, _, _, _, _, _⟩) (v := ?nv6) rfl (by kernel_rfl) (by kernel_rfl) (by kernel_rfl) (fun _ _ _ h => h) (Or.inl ⟨by rfl, ?ny6⟩) hHeld ?nr6
            case ny6 => (intro W hSw; (try dsimp only at hSw); have f0 := (hSw.cell (p := ⟨g1, 0, none⟩) hgx).trans (cell_of_row wx g1 0 _ 27 (0, 0) HGx.out); have f1 := (hSw.cell (p := ⟨g1, 1, none⟩) hgx).trans (cell_of_row wx g1 1 _ 27 (0, 0) HGx.out); go_simp; try with_reducible rfl)
            try simp only [Act.put, List.setIfInBounds_toArray, List.set_cons_zero, List.set_cons_succ]
            refine wpAnyH_ready (rs := [2]) (by kernel_rfl) (by simp) ?_
            refine AllReadyH.cons (o := ⟨some 67, _, _, _, _, _⟩) rfl (fun K hK => ?_) AllReadyH.nil
            go_simp
            go_at_call 11; refine (HNX.out _).mono ?_; rintro E wn ⟨rfl, hb⟩
            refine hK.out _ _ (hHeld.trans (hb.mono hHeld.size)) (fun hHeld => ?_)
            clear hK K
            try simp only [Act.put, List.setIfInBounds_toArray, List.set_cons_zero, List.set_cons_succ]
            refine wpAnyH_ready (rs := [5]) (by kernel_rfl) (by simp) ?_
            refine AllReadyH.cons (o := ⟨some 70, _, _, _, _, _⟩) rfl (fun K hK => ?_) AllReadyH.nil
            go_simp
            go_at_call 11; refine (HNY.out _).mono ?_; rintro E wm ⟨rfl, hb⟩
            refine hK.out _ _ (hHeld.trans (hb.mono hHeld.size)) (fun hHeld => ?_)
            clear hK K
            try simp only [Act.put, List.setIfInBounds_toArray, List.set_cons_zero, List.set_cons_succ]
            refine wpAnyH_ready (rs := [7]) (by kernel_rfl) (by simp) ?_
            refine AllReadyH.cons (o := ⟨some 72, _, _, _, _, _⟩) rfl (fun K hK => ?_) AllReadyH.nil
            go_simp
            go_at_call 12; refine (HSP.out _).mono ?_; rintro E wk ⟨rfl, hb⟩
            refine hK.out _ _ (hHeld.trans (hb.mono hHeld.size)) (fun hHeld => ?_)
            clear hK K
            try simp only [Act.put, List.setIfInBounds_toArray, List.set_cons_zero, List.set_cons_succ]
            refine wpAnyH_take (i := 8) (oi := ⟨some 64, _, _, _, _, _⟩) (v := ?nv8) rfl (by kernel_rfl) (by kernel_rfl) (by kernel_rfl) (fun _ _ _ h => h) (Or.inl ⟨by rfl, ?ny8⟩) hHeld ?nr8
            case ny8 => (intro W hSw; (try dsimp only at hSw); go_simp; try with_reducible rfl)
            try simp only [Act.put, List.setIfInBounds_toArray, List.set_cons_zero, List.set_cons_succ]
            refine wpAnyH_take (i := 9) (oi := ⟨some 73, _, _, _, _, _⟩) (v := ?nv9) rfl (by kernel_rfl) (by kernel_rfl) (by kernel_rfl) (fun _ _ _ h => h) (Or.inl ⟨by rfl, ?ny9⟩) hHeld ?nr9
            case ny9 => (intro W hSw; (try dsimp only at hSw); go_simp; try with_reducible rfl)
            try simp only [Act.put, List.setIfInBounds_toArray, List.set_cons_zero, List.set_cons_succ]
            refine wpAnyH_take (i := 10) (oi := ⟨some 74, _, _, _, _, _⟩) (v := ?nv10) rfl (by kernel_rfl) (by kernel_rfl) (by kernel_rfl) (fun _ _ _ h => h) (Or.inl ⟨by rfl, ?ny10⟩) hHeld ?nr10
            case ny10 => (intro W hSw; (try dsimp only at hSw); go_simp; try with_reducible rfl)
            try simp only [Act.put, List.setIfInBounds_toArray, List.set_cons_zero, List.set_cons_succ]
            refine wpAnyH_take (i := 11) (oi := ⟨some 13, _, _, _, _, _⟩) (v := ?nv11) rfl (by kernel_rfl) (by kernel_rfl) (by kernel_rfl) (fun _ _ _ h => h) (Or.inl ⟨by rfl, ?ny11⟩) hHeld ?nr11
            case ny11 => (intro W hSw; (try dsimp only at hSw); go_simp; try with_reducible rfl)
            try simp only [Act.put, List.setIfInBounds_toArray, List.set_cons_zero, List.set_cons_succ]
            refine wpAnyH_take (i := 12) (oi := ⟨some 14, _, _, _, _, _⟩) (v := ?nv12) rfl (by kernel_rfl) (by kernel_rfl) (by kernel_rfl) (fun _ _ _ h => h) (Or.inl ⟨by rfl, ?ny12⟩) hHeld ?nr12
            case ny12 => (intro W hSw; (try dsimp only at hSw); go_simp; try with_reducible rfl)
            try simp only [Act.put, List.setIfInBounds_toArray, List.set_cons_zero, List.set_cons_succ]
            refine wpAnyH_done (by kernel_rfl) ?_ _
            have HBH := Lib.hid (HBX.out.trans (hHeld.mono HBX.out.size))
            clear hHeld
            have HCU := Lib.hid (HCT.out wk (HSx.out wk HBH.out))
            cases z
            · go_wp2_with (go_at_call 13; go_loud (refine HCU.out.mono ?_; rintro E w9 ⟨rfl, hb9⟩; have HB9 := Lib.hid (HBH.out.trans (hb9.mono HBH.out.size)); clear hb9))
              go_roundw
              case rel => exact ⟨a + 1, by omega, by go_num, HB9⟩
              case measure => simp [intOf]; omega
            · go_wp2_with (go_at_call 13; go_loud (refine HCU.out.mono ?_; rintro E w9 ⟨rfl, hb9⟩; have HB9 := Lib.hid (HBH.out.trans (hb9.mono HBH.out.size)); clear hb9))
              go_roundw
              case rel => exact ⟨a + 1, by omega, by go_num, HB9⟩
              case measure => simp [intOf]; omega
          · obtain rfl : b = a := by omega
            go_wp2
            go_roundw
            case rel => exact ⟨b + 1, by omega, by go_num, HBB⟩
            case measure => simp [intOf]; omega
      · obtain rfl : n = b := by omega
        go_wp2
        go_ret
        refine ⟨rfl, ?_⟩
        first | exact HW7.out.trans (HB0.out.mono HW7.out.size) | (rw [← HG.out]; exact HW7.out.trans (HB0.out.mono HW7.out.size))
  · have hpd : (ce == 0) = false := beq_eq_false_iff_ne.2 hce
    have hpe : (ce != 0) = true := bne_iff_ne.2 hce
    rw [if_neg hce] at HLL
    have hL0 := HLL.out
    subst hL0
    go_wp2_with (go_at_call 10; go_loud (refine (HCH.out w6 HW6.out).mono ?_; rintro E w7 ⟨rfl, hb7⟩; have HB7 := Lib.hid (HW6.out.trans (hb7.mono HW6.out.size)); clear hb7))
    go_ret
    exact ⟨rfl, by first | exact HB7.out | (rw [← HG.out]; exact HB7.out)⟩
end Go.Proofs.Ytdmecagdjbjgjaa
