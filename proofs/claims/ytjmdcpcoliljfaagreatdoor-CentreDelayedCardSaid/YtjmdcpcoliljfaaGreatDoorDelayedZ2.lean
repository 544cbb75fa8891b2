/- Texts U33, U34, U35, U36, U37. -/
import Derived.Test.YtjmdcpcoliljfaaGreatDoorDelayedZ1
/- Equal flights and entries: the program's comparisons answer true. -/
namespace Go.Proofs.YtjmdcpcoliljfaaGreatDoor
open Go.RowKit

/-- A row of tubes: 55. -/
theorem FlM.tn {F : Nat → Prop} {x : Fm} {ts : List Hd} {f : Fl} {w : World} (h : FlM F x ts f w) {q : Nat} (hq : q < f.legs.length) : (ts[q]!).n = (f.legs[q]!).length := (h.leg q hq).1
set_option maxRecDepth 100000 in
set_option maxHeartbeats 8000000 in
theorem eq55_any {F G : Nat → Prop} {x y : Fm} {ts us : List Hd} {f : Fl} {w : World} (hx : FlM F x ts f w) (hy : FlM G y us f w) (hok : FlOk f) :
    Calls Tryz.prog 55 #[.slice x.la x.ln x.lc, .slice y.la y.ln y.lc, .func (.func 56) #[] #[]] w fun e w' => e = .returned (.bool true) ∧ Below w.heap.size w w' := by
  obtain ⟨b1, a1, hb1, c1⟩ := hx.legCells hok.n0
  obtain ⟨b2, a2, hb2, c2⟩ := hy.legCells hok.n0
  have n1 := hx.ln
  have n2 := hy.ln
  have HC1 := Lib.hid c1
  have HC2 := Lib.hid c2
  have HX := Lib.hid hx
  have HY := Lib.hid hy
  have HOk := Lib.hid hok
  have m6 := hok.n1
  obtain ⟨m, hm⟩ : ∃ m, f.legs.length = m := ⟨_, rfl⟩
  have HM := Lib.hid hm
  rw [a1, a2, n1, n2, hm]
  rw [hm] at m6
  generalize x.lc = k1
  generalize y.lc = k2
  have hm0 : (0 : Int) ≤ (m : Int) := by omega
  clear c1 c2 hx hy hok a1 a2 n1 n2 hm
  go_enter Tryz.func55, Tryz.ntmps55
  go_wp2
  go_loopw [17] (fun s wr => ∃ i : Nat, i ≤ m ∧ s = .int .i64 (i : Int) ∧ Hid (Below w.heap.size w wr)) (fun s _ => m - (intOf s).toNat)
  case atStart => exact ⟨0, by omega, rfl, Lib.hid (Below.refl _ _)⟩
  case round =>
    obtain ⟨i, hi, rfl, HB⟩ := hrel
    obtain ⟨wo, hwo⟩ : ∃ wo : World, wo = wr := ⟨_, rfl⟩
    subst hwo
    have hzr := HB.out.size
    by_cases hlt : i < m
    · have l0 : (0 : Int) ≤ (i : Int) := by omega
      have l1 : (i : Int) < (m : Int) := by omega
      have hiw : IntKind.i64.wrap ((i : Int) + 1) = (i : Int) + 1 := IntWalk.i64_in _ (by omega)
      have hif : i < f.legs.length := by rw [HM.out]; exact hlt
      have d1 := (HB.out.cell (p := ⟨b1, i, none⟩) hb1).trans (HC1.out i hif)
      have d2 := (HB.out.cell (p := ⟨b2, i, none⟩) hb2).trans (HC2.out i hif)
      have t1 := ((HX.out.kept (.of_below HB.out)).leg i hif).tua
      have t2 := ((HY.out.kept (.of_below HB.out)).leg i hif).tua
      have e1 := HX.out.tn hif
      have e2 := HY.out.tn hif
      have hl64 := (HOk.out.legs i hif).n1
      generalize ts[i]! = h1 at d1 t1 e1
      generalize us[i]! = h2 at d2 t2 e2
      obtain ⟨A1, k, c1⟩ := h1
      obtain ⟨A2, k', c2⟩ := h2
      dsimp only at d1 d2 t1 t2 e1 e2
      obtain rfl : k = k' := by omega
      have HE := Lib.hid (eq56_any A1 A2 k c1 c2 f.legs[i]! wo t1 t2 (by omega))
      clear t1 t2 e1 e2 hl64
      go_wp2_with (go_at_call 56; go_loud (refine HE.out.mono ?_; rintro e w5 ⟨rfl, hb5⟩; have HB5 := Lib.hid hb5; clear hb5))
      go_roundw
      case rel => exact ⟨i + 1, by omega, by go_num, Lib.hid (HB.out.trans (HB5.out.mono hzr))⟩
      case measure => simp [intOf]; omega
    · obtain rfl : m = i := by omega
      go_wp2
      go_ret
      exact ⟨rfl, HB.out⟩
set_option maxRecDepth 100000 in
set_option maxHeartbeats 8000000 in
theorem eq53_any {F G : Nat → Prop} {x y : Fm} {ts us : List Hd} {f : Fl} {w : World} (hx : FlM F x ts f w) (hy : FlM G y us f w) (hok : FlOk f) :
    Calls Tryz.prog 53 #[fmA x, fmA y] w fun e w' => e = .returned (.bool true) ∧ Below w.heap.size w w' := by
  have HL := Lib.hid (fun (W : World) (hb : Below w.heap.size w W) => eq55_any (hx.kept (.of_below hb)) (hy.kept (.of_below hb)) hok)
  have hnx : f.next.length ≤ 64 := by
    rcases hok.next with e | e
    · rw [e]; exact Nat.zero_le _
    · exact e.n1
  have e1 : x.nn = f.next.length := hx.next.1
  have e2 : y.nn = f.next.length := hy.next.1
  have HN := Lib.hid (fun (W : World) (hb : Below w.heap.size w W) => (by
    have t1 := (hx.next.tua.below hb)
    have t2 := (hy.next.tua.below hb)
    dsimp only at t1 t2
    rw [e1] at t1
    rw [e2] at t2
    exact eq54_any x.na y.na f.next.length x.nc y.nc f.next W t1 t2 (by omega)))
  have h1 := hx.call.trans hy.call.symm
  have h2 := hx.wake.trans hy.wake.symm
  have h3 := hx.slot.trans hy.slot.symm
  have h4 := hx.lands.trans hy.lands.symm
  have h5 := hx.land.trans hy.land.symm
  have h6 := hx.nland.trans hy.nland.symm
  obtain ⟨xc, xw, xs, xl, xla, xln, xlc, xna, xnn, xnc, xd, xn⟩ := x
  obtain ⟨yc, yw, ys, yl, yla, yln, ylc, yna, ynn, ync, yd, yn⟩ := y
  dsimp only at h1 h2 h3 h4 h5 h6 e1 e2 HL HN
  subst h1 h2 h3 h4 h5 h6
  rw [← e1] at HN
  have e3 : ynn = xnn := by omega
  subst e3
  clear hx hy hok hnx e1 e2
  unfold fmA
  have s1 : (xc.toList == xc.toList) = true := by simp
  go_enter Tryz.func53, Tryz.ntmps53
  go_upto_region 1 with (fail)
  obtain ⟨V, hV⟩ : ∃ V, (w.alloc (.cells #[.string xc, .int .i64 xw, .int .i64 xs, .bool xl, .slice xla xln xlc, .slice xna ynn xnc, .int .i64 xd, .int .i64 xn] 41)).alloc (.cells #[.string xc, .int .i64 xw, .int .i64 xs, .bool xl, .slice yla yln ylc, .slice yna ynn ync, .int .i64 xd, .int .i64 xn] 41) = V := ⟨_, rfl⟩
  rw [hV]
  have hbV : Below w.heap.size w V := by rw [← hV]; exact ((Below.refl _ w).alloc (Nat.le_refl _) _).alloc (by simp) _
  have hr1 : V.heap[w.heap.size]? = some (.cells #[.string xc, .int .i64 xw, .int .i64 xs, .bool xl, .slice xla xln xlc, .slice xna ynn xnc, .int .i64 xd, .int .i64 xn] 41 (0, 0)) := by rw [← hV]; exact ((((Below.refl _ (w.alloc (.cells #[.string xc, .int .i64 xw, .int .i64 xs, .bool xl, .slice xla xln xlc, .slice xna ynn xnc, .int .i64 xd, .int .i64 xn] 41))).alloc (Nat.le_refl _) _).block w.heap.size (by rw [size_al]; omega))).trans (heap_alloc_new w _)
  have hr2 : V.heap[w.heap.size + 1]? = some (.cells #[.string xc, .int .i64 xw, .int .i64 xs, .bool xl, .slice yla yln ylc, .slice yna ynn ync, .int .i64 xd, .int .i64 xn] 41 (0, 0)) := by rw [← hV, ← size_al w (.cells #[.string xc, .int .i64 xw, .int .i64 xs, .bool xl, .slice xla xln xlc, .slice xna ynn xnc, .int .i64 xd, .int .i64 xn] 41)]; exact heap_alloc_new _ _
  have hzV : V.heap.size = w.heap.size + 2 := by rw [← hV, size_al, size_al]
  clear hV
  have c00 : V.cell? ⟨w.heap.size, 0, none⟩ = some (.string xc) := cell_of_row V _ 0 _ _ _ hr1
  have c01 : V.cell? ⟨w.heap.size, 1, none⟩ = some (.int .i64 xw) := cell_of_row V _ 1 _ _ _ hr1
  have c02 : V.cell? ⟨w.heap.size, 2, none⟩ = some (.int .i64 xs) := cell_of_row V _ 2 _ _ _ hr1
  have c03 : V.cell? ⟨w.heap.size, 3, none⟩ = some (.bool xl) := cell_of_row V _ 3 _ _ _ hr1
  have c04 : V.cell? ⟨w.heap.size, 4, none⟩ = some (.slice xla xln xlc) := cell_of_row V _ 4 _ _ _ hr1
  have c05 : V.cell? ⟨w.heap.size, 5, none⟩ = some (.slice xna ynn xnc) := cell_of_row V _ 5 _ _ _ hr1
  have c06 : V.cell? ⟨w.heap.size, 6, none⟩ = some (.int .i64 xd) := cell_of_row V _ 6 _ _ _ hr1
  have c07 : V.cell? ⟨w.heap.size, 7, none⟩ = some (.int .i64 xn) := cell_of_row V _ 7 _ _ _ hr1
  have c10 : V.cell? ⟨w.heap.size + 1, 0, none⟩ = some (.string xc) := cell_of_row V _ 0 _ _ _ hr2
  have c11 : V.cell? ⟨w.heap.size + 1, 1, none⟩ = some (.int .i64 xw) := cell_of_row V _ 1 _ _ _ hr2
  have c12 : V.cell? ⟨w.heap.size + 1, 2, none⟩ = some (.int .i64 xs) := cell_of_row V _ 2 _ _ _ hr2
  have c13 : V.cell? ⟨w.heap.size + 1, 3, none⟩ = some (.bool xl) := cell_of_row V _ 3 _ _ _ hr2
  have c14 : V.cell? ⟨w.heap.size + 1, 4, none⟩ = some (.slice yla yln ylc) := cell_of_row V _ 4 _ _ _ hr2
  have c15 : V.cell? ⟨w.heap.size + 1, 5, none⟩ = some (.slice yna ynn ync) := cell_of_row V _ 5 _ _ _ hr2
  have c16 : V.cell? ⟨w.heap.size + 1, 6, none⟩ = some (.int .i64 xd) := cell_of_row V _ 6 _ _ _ hr2
  have c17 : V.cell? ⟨w.heap.size + 1, 7, none⟩ = some (.int .i64 xn) := cell_of_row V _ 7 _ _ _ hr2
  have HR := Lib.hid (fun (W : World) (hb : Below V.heap.size V W) => (show W.cell? ⟨w.heap.size, 4, none⟩ = some (.slice xla xln xlc) ∧ W.cell? ⟨w.heap.size + 1, 4, none⟩ = some (.slice yla yln ylc) from ⟨cell_of_row W _ 4 _ _ _ ((hb.block _ (by omega)).trans hr1), cell_of_row W _ 4 _ _ _ ((hb.block _ (by omega)).trans hr2)⟩))
  have HBV := Lib.hid hbV
  clear hbV hr1 hr2
  have tok : True := trivial
  go_wp2_with (first
    | (go_at_call 54; go_loud (refine (HN.out V HBV.out).mono ?_; rintro e w1 ⟨rfl, hb1⟩; obtain ⟨m0, m1⟩ := HR.out w1 hb1; have HB1 := Lib.hid (HBV.out.trans (hb1.mono HBV.out.size)); clear hb1))
    | (go_at_call 55; go_loud (refine (HL.out _ HB1.out).mono ?_; rintro e w2 ⟨rfl, hb2⟩; have HB2 := Lib.hid hb2; clear hb2)))
  go_ret
  exact ⟨rfl, HB1.out.trans (HB2.out.mono HB1.out.size)⟩
end Go.Proofs.YtjmdcpcoliljfaaGreatDoor

/- sameFlights of equal flights; Equal of equal entries. -/
namespace Go.Proofs.YtjmdcpcoliljfaaGreatDoor
open Go.RowKit

set_option maxRecDepth 100000 in
set_option maxHeartbeats 16000000 in
theorem eq52_any {F G : Nat → Prop} {v u : Hd} {xs ys : List Fm} {ts us : List (List Hd)} {fl : List Fl} {w : World} (hx : CpX F v xs ts fl w) (hy : CpX G u ys us fl w) (hok : ∀ f ∈ fl, FlOk f) (hn : fl.length ≤ 24) :
    Calls Tryz.prog 52 #[.slice v.A v.n v.c, .slice u.A u.n u.c, .func (.func 53) #[] #[]] w fun e w' => e = .returned (.bool true) ∧ Below w.heap.size w w' := by
  have HX := Lib.hid hx
  have HY := Lib.hid hy
  have HOk := Lib.hid hok
  have n1 := hx.n
  have n2 := hy.n
  obtain ⟨vA, vn, vc⟩ := v
  obtain ⟨uA, un, uc⟩ := u
  dsimp only at n1 n2 ⊢
  obtain rfl : vn = un := by omega
  have HN := Lib.hid n1
  have hv24 : vn ≤ 24 := by omega
  clear hx hy hok n1 n2 hn
  go_enter Tryz.func52, Tryz.ntmps52
  go_wp2
  go_loopw [17] (fun s wr => ∃ i : Nat, i ≤ vn ∧ s = .int .i64 (i : Int) ∧ Hid (Below w.heap.size w wr)) (fun s _ => vn - (intOf s).toNat)
  case atStart => exact ⟨0, by omega, rfl, Lib.hid (Below.refl _ _)⟩
  case round =>
    obtain ⟨i, hi, rfl, HB⟩ := hrel
    obtain ⟨wo, hwo⟩ : ∃ wo : World, wo = wr := ⟨_, rfl⟩
    subst hwo
    have hzr := HB.out.size
    by_cases hlt : i < vn
    · have l0 : (0 : Int) ≤ (i : Int) := by omega
      have l1 : (i : Int) < (vn : Int) := by omega
      have hiw : IntKind.i64.wrap ((i : Int) + 1) = (i : Int) + 1 := IntWalk.i64_in _ (by omega)
      have hic : i < fl.length := by rw [← HN.out]; exact hlt
      have HXi := Lib.hid (HX.out.kept (.of_below HB.out))
      have HYi := Lib.hid (HY.out.kept (.of_below HB.out))
      obtain ⟨b, hA, hb, hcell⟩ := HXi.out.cells hic
      obtain ⟨b', hA', hb', hcell'⟩ := HYi.out.cells hic
      have hA : vA = some ⟨b, 0, none⟩ := hA
      have hA' : uA = some ⟨b', 0, none⟩ := hA'
      subst hA
      subst hA'
      have hfm : fl[i]! ∈ fl := by rw [getElem!_pos fl i hic]; exact List.getElem_mem hic
      have HE := Lib.hid (fun (W : World) (hb : Below wo.heap.size wo W) => eq53_any ((HXi.out.fl i hic).kept (.of_below hb)) ((HYi.out.fl i hic).kept (.of_below hb)) (HOk.out _ hfm))
      unfold fmA at HE
      generalize xs[i]! = x at hcell HE
      generalize ys[i]! = y at hcell' HE
      have q0 := hcell 0 (by decide)
      have q1 := hcell 1 (by decide)
      have q2 := hcell 2 (by decide)
      have q3 := hcell 3 (by decide)
      have q4 := hcell 4 (by decide)
      have q5 := hcell 5 (by decide)
      have q6 := hcell 6 (by decide)
      have q7 := hcell 7 (by decide)
      have p0 := hcell' 0 (by decide)
      have p1 := hcell' 1 (by decide)
      have p2 := hcell' 2 (by decide)
      have p3 := hcell' 3 (by decide)
      have p4 := hcell' 4 (by decide)
      have p5 := hcell' 5 (by decide)
      have p6 := hcell' 6 (by decide)
      have p7 := hcell' 7 (by decide)
      simp only [fmV, List.getElem?_cons_succ, List.getElem?_cons_zero, Nat.add_zero] at q0 q1 q2 q3 q4 q5 q6 q7 p0 p1 p2 p3 p4 p5 p6 p7
      obtain ⟨xc, xw, xs', xl, xla, xln, xlc, xna, xnn, xnc, xd, xn⟩ := x
      obtain ⟨yc, yw, ys', yl, yla, yln, ylc, yna, ynn, ync, yd, yn⟩ := y
      dsimp only at q0 q1 q2 q3 q4 q5 q6 q7 p0 p1 p2 p3 p4 p5 p6 p7 HE
      clear hcell hcell' hfm
      go_upto_region 6 with (fail)
      obtain ⟨w4, hw4⟩ : ∃ W, wo.alloc (.cells #[.string xc, .int .i64 xw, .int .i64 xs', .bool xl, .slice xla xln xlc, .slice xna xnn xnc, .int .i64 xd, .int .i64 xn] 41) = W := ⟨_, rfl⟩
      rw [hw4]
      have hb4 : Below wo.heap.size wo w4 := by rw [← hw4]; exact (Below.refl _ _).alloc (Nat.le_refl _) _
      have hr4 : w4.heap[wo.heap.size]? = some (.cells #[.string xc, .int .i64 xw, .int .i64 xs', .bool xl, .slice xla xln xlc, .slice xna xnn xnc, .int .i64 xd, .int .i64 xn] 41 (0, 0)) := by rw [← hw4]; exact heap_alloc_new _ _
      have hz4 : w4.heap.size = wo.heap.size + 1 := by rw [← hw4, size_al]
      have hbl : b' < wo.heap.size := hb'
      have s0 := (hb4.cell (p := ⟨b', i * 8, none⟩) hbl).trans p0
      have s1 := (hb4.cell (p := ⟨b', i * 8 + 1, none⟩) hbl).trans p1
      have s2 := (hb4.cell (p := ⟨b', i * 8 + 2, none⟩) hbl).trans p2
      have s3 := (hb4.cell (p := ⟨b', i * 8 + 3, none⟩) hbl).trans p3
      have s4 := (hb4.cell (p := ⟨b', i * 8 + 4, none⟩) hbl).trans p4
      have s5 := (hb4.cell (p := ⟨b', i * 8 + 5, none⟩) hbl).trans p5
      have s6 := (hb4.cell (p := ⟨b', i * 8 + 6, none⟩) hbl).trans p6
      have s7 := (hb4.cell (p := ⟨b', i * 8 + 7, none⟩) hbl).trans p7
      have hl4 : wo.heap.size < w4.heap.size := by omega
      clear hw4 hz4 q0 q1 q2 q3 q4 q5 q6 q7 p0 p1 p2 p3 p4 p5 p6 p7
      go_upto_region 7 with (fail)
      obtain ⟨w5, hw5⟩ : ∃ W, w4.alloc (.cells #[.string yc, .int .i64 yw, .int .i64 ys', .bool yl, .slice yla yln ylc, .slice yna ynn ync, .int .i64 yd, .int .i64 yn] 41) = W := ⟨_, rfl⟩
      rw [hw5]
      have hb5 : Below w4.heap.size w4 w5 := by rw [← hw5]; exact (Below.refl _ _).alloc (Nat.le_refl _) _
      have hr5 : w5.heap[w4.heap.size]? = some (.cells #[.string yc, .int .i64 yw, .int .i64 ys', .bool yl, .slice yla yln ylc, .slice yna ynn ync, .int .i64 yd, .int .i64 yn] 41 (0, 0)) := by rw [← hw5]; exact heap_alloc_new _ _
      have hr4' := (hb5.block wo.heap.size hl4).trans hr4
      have HB5 := Lib.hid (hb4.trans (hb5.mono hb4.size))
      clear hw5 s0 s1 s2 s3 s4 s5 s6 s7 hb4 hb5 hr4
      go_wp2_with (first
        | (first | (refine wpList_load_row rfl 41 _ rfl wo.heap.size rfl 41 _ (0, 0) _ hr4' Tryz.underlying41 rfl (by kernel_rfl) ?_) | (refine wpList_load_row_w 41 _ rfl wo.heap.size rfl rfl 41 _ (0, 0) _ hr4' Tryz.underlying41 rfl (by kernel_rfl) ?_) | (refine wpList_load_row rfl 41 _ rfl w4.heap.size rfl 41 _ (0, 0) _ hr5 Tryz.underlying41 rfl (by kernel_rfl) ?_) | (refine wpList_load_row_w 41 _ rfl w4.heap.size rfl rfl 41 _ (0, 0) _ hr5 Tryz.underlying41 rfl (by kernel_rfl) ?_))
        | (go_at_call 53; go_loud (refine (HE.out w5 HB5.out).mono ?_; rintro e w6 ⟨rfl, hb6⟩; have HB6 := Lib.hid (HB5.out.trans (hb6.mono HB5.out.size)); clear hb6)))
      go_roundw
      case rel => exact ⟨i + 1, by omega, by go_num, Lib.hid (HB.out.trans (HB6.out.mono hzr))⟩
      case measure => simp [intOf]; omega
    · obtain rfl : vn = i := by omega
      go_wp2
      go_ret
      exact ⟨rfl, HB.out⟩
set_option maxRecDepth 100000 in
theorem same28_any {F G : Nat → Prop} {v u : Hd} {fl : List Fl} {w : World} (hx : CpM F v fl w) (hy : CpM G u fl w) (hok : ∀ f ∈ fl, FlOk f) (hn : fl.length ≤ 24) :
    Calls Tryz.prog 28 #[.slice v.A v.n v.c, .slice u.A u.n u.c] w fun e w' => e = .returned (.bool true) ∧ Below w.heap.size w w' := by
  obtain ⟨xs, ts, hx⟩ := hx
  obtain ⟨ys, us, hy⟩ := hy
  have HE := Lib.hid (eq52_any hx hy hok hn)
  clear hx hy hok hn
  go_enter Tryz.func28, Tryz.ntmps28
  go_wp2_with (go_at_call 52; go_loud (refine HE.out.mono ?_; rintro e w1 ⟨rfl, hb1⟩))
  go_ret
  exact ⟨rfl, hb1⟩
set_option maxRecDepth 100000 in
set_option maxHeartbeats 8000000 in
theorem eq29_any (A B : Option Addr) (n c d : Nat) (l : List Ow) (w : World) (hA : OwA A n l w) (hB : OwA B n l w) (hn : n ≤ 100000) :
    Calls Tryz.prog 29 #[.slice A n c, .slice B n d] w fun e w' => e = .returned (.bool true) ∧ Below w.heap.size w w' := by
  have HV := Lib.hid hA.2
  have HU := Lib.hid hB.2
  have hm0 : (0 : Int) ≤ (n : Int) := by omega
  clear hA hB
  go_enter Tryz.func29, Tryz.ntmps29
  go_wp2
  go_loopw [13] (fun i wr => ∃ j : Nat, j ≤ n ∧ i = .int .i64 (j : Int) ∧ Hid (Below w.heap.size w wr)) (fun i _ => n - (intOf i).toNat)
  case atStart => exact ⟨0, by omega, rfl, Lib.hid (Below.refl _ _)⟩
  case round =>
    obtain ⟨j, hj, rfl, HB⟩ := hrel
    obtain ⟨wo, hwo⟩ : ∃ wo : World, wo = wr := ⟨_, rfl⟩
    subst hwo
    by_cases hlt : j < n
    · obtain ⟨b1, o1, rfl, hb1, hr1⟩ := (HV.out.below HB.out) (by omega)
      obtain ⟨b2, o2, rfl, hb2, hr2⟩ := (HU.out.below HB.out) (by omega)
      have h1 : ∀ i v, (owV l[j]!)[i]? = some v → wo.cell? ⟨b1, o1 + j * 3 + i, none⟩ = some v := hr1 j hlt
      have h2 : ∀ i v, (owV l[j]!)[i]? = some v → wo.cell? ⟨b2, o2 + j * 3 + i, none⟩ = some v := hr2 j hlt
      generalize l[j]! = q at h1 h2
      obtain ⟨q1, q2, q3⟩ := q
      have hbe := fun W => eqO57 q1 q2 q3 W
      have d0 := cell_regrown (h1 0 (.string q1) rfl)
      have d1 := cell_regrown (h1 1 (.string q2) rfl)
      have d2 := cell_regrown (h1 2 (.string q3) rfl)
      have f0 := cell_regrown (h2 0 (.string q1) rfl)
      have f1 := cell_regrown (h2 1 (.string q2) rfl)
      have f2 := cell_regrown (h2 2 (.string q3) rfl)
      simp only [Nat.add_zero] at d0 f0
      have l1 : (j : Int) < (n : Int) := by omega
      have l0 : (0 : Int) ≤ (j : Int) := by omega
      have hwj : IntKind.i64.wrap ((j : Int) + 1) = (j : Int) + 1 := IntWalk.i64_in _ (by omega)
      clear h1 h2 hr1 hr2
      go_upto_region 6 with (fail)
      refine wp_region_quiet_below (by kernel_rfl) (by kernel_rfl) ?_
      repeat (go_big_quiet_step (fail))
      refine wpQuiet_nil ?_
      intro w9 hwz
      have hb9 : Below wo.heap.size wo w9 := by obtain ⟨⟨dq, osq⟩, rfl⟩ := hwz; exact below_regrown wo _ _
      clear hwz
      go_wp2_with fail
      go_roundw
      case rel => exact ⟨j + 1, by omega, by go_num, Lib.hid (HB.out.trans (hb9.mono HB.out.size))⟩
      case measure => simp [intOf]; omega
    · obtain rfl : n = j := by omega
      go_wp2
      go_ret
      exact ⟨rfl, HB.out⟩
end Go.Proofs.YtjmdcpcoliljfaaGreatDoor

/- The function given to run in CentreRefuses: what the law keeps in mind. -/
namespace Go.Proofs.YtjmdcpcoliljfaaGreatDoor
open Go.RowKit

theorem CpX.lt {F : Nat → Prop} {v : Hd} {xs : List Fm} {ts : List (List Hd)} {fl : List Fl} {w : World} (h : CpX F v xs ts fl w) : CpX (fun k => F k ∧ k < w.heap.size) v xs ts fl w := by
  have key : ∀ {e size n : Nat} {u : Value} {l : List Value}, OwnF F w e size u n l → OwnF (fun k => F k ∧ k < w.heap.size) w e size u n l := fun h => ⟨h.1, fun k hk => ⟨h.2 k hk, (h.1.lt k hk).2⟩⟩
  exact ⟨h.n, h.xn, key h.own, fun i hi => by
    have f := h.fl i hi
    exact ⟨f.call, f.wake, f.slot, f.lands, f.land, f.nland, f.ln, f.tl, key f.legs, fun j hj => ⟨(f.leg j hj).1, key (f.leg j hj).2⟩, ⟨f.next.1, key f.next.2⟩⟩⟩
theorem CpM.lt {F : Nat → Prop} {v : Hd} {fl : List Fl} {w : World} (h : CpM F v fl w) : CpM (fun k => F k ∧ k < w.heap.size) v fl w := by
  obtain ⟨xs, ts, h⟩ := h
  exact ⟨xs, ts, h.lt⟩
/-- A block of another type is written. -/
theorem CpX.set {F : Nat → Prop} {v : Hd} {xs : List Fm} {ts : List (List Hd)} {fl : List Fl} {w : World} (h : CpX F v xs ts fl w) {p : Addr} {t : TypeId} {cur : Array Value} (hp : w.heap[p.block]? = some (.cells cur t (0, 0))) (h1 : t ≠ 41) (h2 : t ≠ 33) (h3 : t ≠ 47) (u : Value) : CpX F v xs ts fl (w.setCell p u) :=
  ⟨h.n, h.xn, h.own.set hp h1 u, fun i hi => (h.fl i hi).set hp h3 ((h.fl i hi).legs.other hp h2) u⟩
theorem CpM.set {F : Nat → Prop} {v : Hd} {fl : List Fl} {w : World} (h : CpM F v fl w) {p : Addr} {t : TypeId} {cur : Array Value} (hp : w.heap[p.block]? = some (.cells cur t (0, 0))) (h1 : t ≠ 41) (h2 : t ≠ 33) (h3 : t ≠ 47) (u : Value) : CpM F v fl (w.setCell p u) := by
  obtain ⟨xs, ts, h⟩ := h
  exact ⟨xs, ts, h.set hp h1 h2 h3 u⟩
/-- A variable of one cell. -/
def V1 (b : Nat) (t : TypeId) (u : Value) (w : World) : Prop := w.heap[b]? = some (.cells #[u] t (0, 0))
theorem V1.cell {b : Nat} {t : TypeId} {u : Value} {w : World} (h : V1 b t u w) : w.cell? ⟨b, 0, none⟩ = some u := cell_of_row w b 0 _ _ _ h
theorem V1.frozen {b : Nat} {t : TypeId} {u : Value} {w : World} (h : V1 b t u w) : w.frozen? ⟨b, 0, none⟩ = false := frozen_of_row w b 0 _ _ h
theorem V1.set {b : Nat} {t : TypeId} {u : Value} {w : World} (h : V1 b t u w) (v : Value) : V1 b t v (w.setCell ⟨b, 0, none⟩ v) := heap_setCell_same _ _ _ _ _ _ h
theorem V1.other {b b' : Nat} {t : TypeId} {u : Value} {w : World} (h : V1 b t u w) (hn : b ≠ b') (v : Value) : V1 b t u (w.setCell ⟨b', 0, none⟩ v) := (Below.heap_setCell _ _ _ _ hn).trans h
theorem V1.lt {b : Nat} {t : TypeId} {u : Value} {w : World} (h : V1 b t u w) : b < w.heap.size := (Array.getElem?_eq_some_iff.1 h).1
theorem V1.below {b : Nat} {t : TypeId} {u : Value} {w w' : World} (h : V1 b t u w) (hb : Below w.heap.size w w') : V1 b t u w' := (hb.block b h.lt).trans h
theorem V1.off {F : Nat → Prop} {b : Nat} {t : TypeId} {u : Value} {w w' : World} (h : V1 b t u w) (ho : Off F w w') (hb : ¬ F b) : V1 b t u w' := (ho.block b h.lt hb).trans h

/-- The copies that CentreRefuses keeps: of the flights in v at b1, of the entries in oh at b2. -/
structure RefM (F : Nat → Prop) (b1 b2 : Nat) (v oh : Hd) (fl : List Fl) (ow : List Ow) (w : World) : Prop where
  e1 : V1 b1 37 (.slice v.A v.n v.c) w
  e2 : V1 b2 55 (.slice oh.A oh.n oh.c) w
  n1 : ¬ F b1
  n2 : ¬ F b2
  ne : b1 ≠ b2
  cp : CpM (fun k => ¬ F k) v fl w
  on : oh.n = ow.length
  ow : OwnF (fun k => ¬ F k) w 57 3 (.slice oh.A oh.n oh.c) ow.length (rowsV owV ow)
theorem RefM.below {F : Nat → Prop} {b1 b2 : Nat} {v oh : Hd} {fl : List Fl} {ow : List Ow} {w w' : World} (h : RefM F b1 b2 v oh fl ow w) (hb : Below w.heap.size w w') : RefM F b1 b2 v oh fl ow w' :=
  ⟨h.e1.below hb, h.e2.below hb, h.n1, h.n2, h.ne, h.cp.kept (.of_below hb), h.on, h.ow.kept (.of_below hb)⟩
theorem RefM.off {F F' : Nat → Prop} {b1 b2 : Nat} {v oh : Hd} {fl : List Fl} {ow : List Ow} {w w' : World} (h : RefM F b1 b2 v oh fl ow w) (ho : Off F w w') (hs : ∀ b, F' b → F b ∨ w.heap.size ≤ b) : RefM F' b1 b2 v oh fl ow w' := by
  have hk : Kept (fun k => ¬ F k ∧ k < w.heap.size) w w' := ⟨ho.size, fun k _ hf => ho.block k hf.2 hf.1⟩
  have hm : ∀ k, (¬ F k ∧ k < w.heap.size) → ¬ F' k := fun k hf hf' => (hs k hf').elim hf.1 (fun h => by omega)
  refine ⟨h.e1.off ho h.n1, h.e2.off ho h.n2, hm _ ⟨h.n1, h.e1.lt⟩, hm _ ⟨h.n2, h.e2.lt⟩, h.ne, (h.cp.lt.kept hk).mono hm, h.on, ?_⟩
  have : OwnF (fun k => ¬ F k ∧ k < w.heap.size) w 57 3 (.slice oh.A oh.n oh.c) ow.length (rowsV owV ow) := ⟨h.ow.1, fun k hk => ⟨h.ow.2 k hk, (h.ow.1.lt k hk).2⟩⟩
  exact (this.kept hk).mono hm
theorem RefM.owa {F : Nat → Prop} {b1 b2 : Nat} {v oh : Hd} {fl : List Fl} {ow : List Ow} {w : World} (h : RefM F b1 b2 v oh fl ow w) : OwA oh.A oh.n ow w := by
  have h3 := h.ow.1
  rw [← h.on] at h3
  exact ⟨h.on.symm, Sl_rows owV_len h3 h.on.symm (by decide)⟩
theorem OwnF.owa {F : Nat → Prop} {A : Option Addr} {c : Nat} {l : List Ow} {w : World} (h : OwnF F w 57 3 (.slice A l.length c) l.length (rowsV owV l)) : OwA A l.length l w := ⟨rfl, Sl_rows owV_len h.1 rfl (by decide)⟩
end Go.Proofs.YtjmdcpcoliljfaaGreatDoor

/- The function given to run in CentreRefuses: an input is refused. -/
namespace Go.Proofs.YtjmdcpcoliljfaaGreatDoor
open Go.RowKit

set_option maxRecDepth 100000 in
set_option maxHeartbeats 16000000 in
theorem cl30_no {F : Nat → Prop} {g : Nat} {S : Su} {c : Ce} {w : World} {b1 b2 b3 b4 : Nat} {v oh : Hd} (h : CeAt F g S c w) (hok : CeOk c) (h20 : c.acc ≤ 20) (hr : RefM F b1 b2 v oh c.fl c.ow w) (h3 : V1 b3 3 (.int .i64 c.time) w) (h4 : V1 b4 3 (.int .i64 (c.log.length : Int)) w)
    (x : Inp) (A : Option Addr) (n cA : Nat) (k : Int) (hk : k ≠ 0) :
    Calls Tryz.prog 30 #[.pointer (some ⟨g, 0, none⟩), inpV x A n cA, .int .i64 k, .pointer (some ⟨b1, 0, none⟩), .pointer (some ⟨b2, 0, none⟩), .pointer (some ⟨b3, 0, none⟩), .pointer (some ⟨b4, 0, none⟩)] w fun e w' => e = .returned (.bool true) ∧ Below w.heap.size w w' := by
  obtain ⟨y, hM⟩ := h
  have HM := Lib.hid hM
  have HOk := Lib.hid hok
  have HLg := Lib.hid (fun (W : World) (hb : Below w.heap.size w W) => Log_any (hM.below hb) hok h20)
  have HR := Lib.hid hr
  have H34 := Lib.hid (And.intro h3 h4)
  have h24 : c.fl.length ≤ 24 := by have := hok.ow.n; have := hok.len; omega
  have ek : (k != 0) = true := by simpa using hk
  obtain ⟨ct, hct⟩ : ∃ ct, c.time = ct := ⟨_, rfl⟩
  obtain ⟨ln, hln⟩ : ∃ ln, c.log.length = ln := ⟨_, rfl⟩
  obtain ⟨on, hon⟩ : ∃ on, c.ow.length = on := ⟨_, rfl⟩
  obtain ⟨vA, vn, vc⟩ := v
  obtain ⟨oA, on', oc⟩ := oh
  have e2 : on' = on := by have := hr.on; dsimp only at this; omega
  subst e2
  have HCt := Lib.hid hct
  have HLn := Lib.hid hln
  have HOn := Lib.hid hon
  clear hM hok hr h3 h4 hk hct hln hon h20
  unfold inpV
  unfold LogP at HLg
  go_enter Tryz.func30, Tryz.ntmps30
  go_upto_region 3 with (go_at_call 31; go_loud (refine (HLg.out _ ((Below.refl _ _).alloc (Nat.le_refl _) _)).mono ?_; rintro e w2 ⟨lA, lc, rfl, _, hb2⟩; have HB2 := Lib.hid (((Below.refl _ w).alloc (Nat.le_refl _) _).trans (hb2.mono (by simp))); clear hb2))
  simp only [HLn.out]
  have hz2 := HB2.out.size
  have HR2 := Lib.hid (HR.out.below HB2.out)
  have HK := Lib.hid (fun (W : World) (hb : Below w2.heap.size w2 W) => (show W.cell? ⟨b1, 0, none⟩ = some (.slice vA vn vc) ∧ W.cell? ⟨b2, 0, none⟩ = some (.slice oA on' oc) ∧ W.cell? ⟨b3, 0, none⟩ = some (.int .i64 ct) ∧ W.cell? ⟨b4, 0, none⟩ = some (.int .i64 (ln : Int)) from by
    have hr := HR2.out.below hb
    have h3 := (H34.out.1.below HB2.out).below hb
    have h4 := (H34.out.2.below HB2.out).below hb
    rw [HCt.out] at h3
    rw [HLn.out] at h4
    exact ⟨hr.e1.cell, hr.e2.cell, h3.cell, h4.cell⟩))
  have HFl := Lib.hid (fun (W : World) (hb : Below w2.heap.size w2 W) => (Flights_any (HM.out.below (HB2.out.trans (hb.mono hz2))) HOk.out).mono fun e w' hh => (show ∃ u : Hd, e = .returned (.slice u.A u.n u.c) ∧ CpM (fun _ => True) u c.fl w' ∧ Below w2.heap.size w2 w' from by
    obtain ⟨u, a1, a2, a3⟩ := hh
    exact ⟨u, a1, a2.mono (fun _ _ => trivial), hb.trans (a3.mono hb.size)⟩))
  have HSm := Lib.hid (fun (W : World) (u : Hd) (hb : Below w2.heap.size w2 W) (hc : CpM (fun _ => True) u c.fl W) => same28_any (HR2.out.below hb).cp hc HOk.out.fl h24)
  have HOw := Lib.hid (fun (W : World) (hb : Below w2.heap.size w2 W) => (Owners_any (HM.out.below (HB2.out.trans (hb.mono hz2))) HOk.out).mono fun e w' hh => (show ∃ pA pc, e = .returned (.slice pA on' pc) ∧ OwnF (fun _ => True) w' 57 3 (.slice pA on' pc) on' (rowsV owV c.ow) ∧ Below w2.heap.size w2 w' from by
    obtain ⟨pA, pc, a1, a2, a3⟩ := hh
    rw [HOn.out] at a1 a2
    exact ⟨pA, pc, a1, a2.mono (fun _ _ => trivial), hb.trans (a3.mono hb.size)⟩))
  have HEq := Lib.hid (fun (W : World) (pA : Option Addr) (pc : Nat) (hb : Below w2.heap.size w2 W) (ho : OwnF (fun _ => True) W 57 3 (.slice pA on' pc) on' (rowsV owV c.ow)) => eq29_any oA pA on' oc pc c.ow W (HR2.out.below hb).owa (by have h := ho; rw [← HOn.out] at h ⊢; exact h.owa) (by have := HOk.out.ow.n; have := HOn.out; omega))
  have HTm := Lib.hid (fun (W : World) (hb : Below w2.heap.size w2 W) => (Time_any (HM.out.below (HB2.out.trans (hb.mono hz2)))).mono fun e w' hh => (show e = .returned (.int .i64 ct) ∧ Below w2.heap.size w2 w' from ⟨by rw [hh.1, HCt.out], hb.trans (hh.2.mono hb.size)⟩))
  dsimp only at HSm
  refine wp_region_held_drew (S := (fun W => W.cell? ⟨b1, 0, none⟩ = some (.slice vA vn vc) ∧ W.cell? ⟨b2, 0, none⟩ = some (.slice oA on' oc) ∧ W.cell? ⟨b3, 0, none⟩ = some (.int .i64 ct) ∧ W.cell? ⟨b4, 0, none⟩ = some (.int .i64 (ln : Int)))) (by kernel_rfl) (HK.out w2.drew (Below.refl _ _).drew) (fun hHeld => ?_)
  refine wpAnyH_take (i := 0) (oi := ⟨some 16, _, _, _, _, _⟩) (v := ?hu0) rfl (by kernel_rfl) (by kernel_rfl) (by kernel_rfl) (fun _ _ _ h => h) (Or.inl ⟨by rfl, ?hp0⟩) hHeld ?hq0
  case hp0 => (intro W hSw; (try dsimp only at hSw); (try obtain ⟨s1, s2, s3, s4⟩ := hSw); go_simp; try with_reducible rfl)
  try simp only [Act.put, List.setIfInBounds_toArray, List.set_cons_zero, List.set_cons_succ]
  refine wpAnyH_take (i := 1) (oi := ⟨some 17, _, _, _, _, _⟩) (v := ?hu1) rfl (by kernel_rfl) (by kernel_rfl) (by kernel_rfl) (fun _ _ _ h => h) (Or.inl ⟨by rfl, ?hp1⟩) hHeld ?hq1
  case hp1 => (intro W hSw; (try dsimp only at hSw); (try obtain ⟨s1, s2, s3, s4⟩ := hSw); go_simp; try with_reducible rfl)
  try simp only [Act.put, List.setIfInBounds_toArray, List.set_cons_zero, List.set_cons_succ]
  refine wpAnyH_ready (rs := [2]) (by kernel_rfl) (by simp) ?_
  refine (AllReadyH.cons (o := ⟨some 18, _, _, _, _, _⟩) rfl (fun K hK => ?_) AllReadyH.nil)
  go_simp
  go_at_call 14
  (with_reducible refine (HFl.out w2.drew (Below.refl _ _).drew).mono ?_)
  rintro e w3 ⟨⟨uA, un, uc⟩, rfl, hc3, hb3⟩
  have HB3 := Lib.hid hb3
  have HC3 := Lib.hid hc3
  clear hb3 hc3
  refine hK.out _ _ (HK.out w3 HB3.out) (fun hHeld => ?_)
  clear hK K
  refine wpAnyH_ready (rs := [3]) (by kernel_rfl) (by simp) ?_
  refine (AllReadyH.cons (o := ⟨some 19, _, _, _, _, _⟩) rfl (fun K hK => ?_) AllReadyH.nil)
  go_simp
  go_at_call 28
  (with_reducible refine (HSm.out w3 ⟨uA, un, uc⟩ HB3.out HC3.out).mono ?_)
  rintro e w4 ⟨rfl, hb4⟩
  have HB4 := Lib.hid (HB3.out.trans (hb4.mono HB3.out.size))
  clear hb4
  refine hK.out _ _ (HK.out w4 HB4.out) (fun hHeld => ?_)
  clear hK K
  try simp only [Act.put, List.setIfInBounds_toArray, List.set_cons_zero, List.set_cons_succ]
  refine wpAnyH_take (i := 4) (oi := ⟨some 20, _, _, _, _, _⟩) (v := ?hu4) rfl (by kernel_rfl) (by kernel_rfl) (by kernel_rfl) (fun _ _ _ h => h) (Or.inl ⟨by rfl, ?hp4⟩) hHeld ?hq4
  case hp4 => (intro W hSw; (try dsimp only at hSw); (try obtain ⟨s1, s2, s3, s4⟩ := hSw); go_simp; try with_reducible rfl)
  try simp only [Act.put, List.setIfInBounds_toArray, List.set_cons_zero, List.set_cons_succ]
  refine wpAnyH_take (i := 5) (oi := ⟨some 21, _, _, _, _, _⟩) (v := ?hu5) rfl (by kernel_rfl) (by kernel_rfl) (by kernel_rfl) (fun _ _ _ h => h) (Or.inl ⟨by rfl, ?hp5⟩) hHeld ?hq5
  case hp5 => (intro W hSw; (try dsimp only at hSw); (try obtain ⟨s1, s2, s3, s4⟩ := hSw); go_simp; try with_reducible rfl)
  try simp only [Act.put, List.setIfInBounds_toArray, List.set_cons_zero, List.set_cons_succ]
  refine wpAnyH_take (i := 6) (oi := ⟨some 22, _, _, _, _, _⟩) (v := ?hu6) rfl (by kernel_rfl) (by kernel_rfl) (by kernel_rfl) (fun _ _ _ h => h) (Or.inl ⟨by rfl, ?hp6⟩) hHeld ?hq6
  case hp6 => (intro W hSw; (try dsimp only at hSw); (try obtain ⟨s1, s2, s3, s4⟩ := hSw); go_simp; try with_reducible rfl)
  try simp only [Act.put, List.setIfInBounds_toArray, List.set_cons_zero, List.set_cons_succ]
  refine wpAnyH_ready (rs := [7]) (by kernel_rfl) (by simp) ?_
  refine (AllReadyH.cons (o := ⟨some 23, _, _, _, _, _⟩) rfl (fun K hK => ?_) AllReadyH.nil)
  go_simp
  go_at_call 20
  (with_reducible refine (HOw.out w4 HB4.out).mono ?_)
  rintro e w5 ⟨pA, pc, rfl, ho5, hb5⟩
  have HB5 := Lib.hid hb5
  have HO5 := Lib.hid ho5
  clear hb5 ho5
  refine hK.out _ _ (HK.out w5 HB5.out) (fun hHeld => ?_)
  clear hK K
  try simp only [Act.put, List.setIfInBounds_toArray, List.set_cons_zero, List.set_cons_succ]
  refine wpAnyH_ready (rs := [8]) (by kernel_rfl) (by simp) ?_
  refine (AllReadyH.cons (o := ⟨some 24, _, _, _, _, _⟩) rfl (fun K hK => ?_) AllReadyH.nil)
  go_simp
  go_at_call 29
  (with_reducible refine (HEq.out w5 pA pc HB5.out HO5.out).mono ?_)
  rintro e w6 ⟨rfl, hb6⟩
  have HB6 := Lib.hid (HB5.out.trans (hb6.mono HB5.out.size))
  clear hb6
  refine hK.out _ _ (HK.out w6 HB6.out) (fun hHeld => ?_)
  clear hK K
  try simp only [Act.put, List.setIfInBounds_toArray, List.set_cons_zero, List.set_cons_succ]
  refine wpAnyH_take (i := 9) (oi := ⟨some 25, _, _, _, _, _⟩) (v := ?hu9) rfl (by kernel_rfl) (by kernel_rfl) (by kernel_rfl) (fun _ _ _ h => h) (Or.inl ⟨by rfl, ?hp9⟩) hHeld ?hq9
  case hp9 => (intro W hSw; (try dsimp only at hSw); (try obtain ⟨s1, s2, s3, s4⟩ := hSw); go_simp; try with_reducible rfl)
  try simp only [Act.put, List.setIfInBounds_toArray, List.set_cons_zero, List.set_cons_succ]
  refine wpAnyH_take (i := 10) (oi := ⟨some 26, _, _, _, _, _⟩) (v := ?hu10) rfl (by kernel_rfl) (by kernel_rfl) (by kernel_rfl) (fun _ _ _ h => h) (Or.inl ⟨by rfl, ?hp10⟩) hHeld ?hq10
  case hp10 => (intro W hSw; (try dsimp only at hSw); (try obtain ⟨s1, s2, s3, s4⟩ := hSw); go_simp; try with_reducible rfl)
  try simp only [Act.put, List.setIfInBounds_toArray, List.set_cons_zero, List.set_cons_succ]
  refine wpAnyH_take (i := 11) (oi := ⟨some 27, _, _, _, _, _⟩) (v := ?hu11) rfl (by kernel_rfl) (by kernel_rfl) (by kernel_rfl) (fun _ _ _ h => h) (Or.inl ⟨by rfl, ?hp11⟩) hHeld ?hq11
  case hp11 => (intro W hSw; (try dsimp only at hSw); (try obtain ⟨s1, s2, s3, s4⟩ := hSw); go_simp; try with_reducible rfl)
  try simp only [Act.put, List.setIfInBounds_toArray, List.set_cons_zero, List.set_cons_succ]
  refine wpAnyH_take (i := 13) (oi := ⟨some 29, _, _, _, _, _⟩) (v := ?hu13) rfl (by kernel_rfl) (by kernel_rfl) (by kernel_rfl) (fun _ _ _ h => h) (Or.inl ⟨by rfl, ?hp13⟩) hHeld ?hq13
  case hp13 => (intro W hSw; (try dsimp only at hSw); (try obtain ⟨s1, s2, s3, s4⟩ := hSw); go_simp; try with_reducible rfl)
  try simp only [Act.put, List.setIfInBounds_toArray, List.set_cons_zero, List.set_cons_succ]
  refine wpAnyH_ready (rs := [12]) (by kernel_rfl) (by simp) ?_
  refine (AllReadyH.cons (o := ⟨some 28, _, _, _, _, _⟩) rfl (fun K hK => ?_) AllReadyH.nil)
  go_simp
  go_at_call 23
  (with_reducible refine (HTm.out w6 HB6.out).mono ?_)
  rintro e w7 ⟨rfl, hb7⟩
  have HB7 := Lib.hid hb7
  clear hb7
  refine hK.out _ _ (HK.out w7 HB7.out) (fun hHeld => ?_)
  clear hK K
  try simp only [Act.put, List.setIfInBounds_toArray, List.set_cons_zero, List.set_cons_succ]
  refine wpAnyH_take (i := 14) (oi := ⟨some 30, _, _, _, _, _⟩) (v := ?hu14) rfl (by kernel_rfl) (by kernel_rfl) (by kernel_rfl) (fun _ _ _ h => h) (Or.inl ⟨by rfl, ?hp14⟩) hHeld ?hq14
  case hp14 => (intro W hSw; (try dsimp only at hSw); (try obtain ⟨s1, s2, s3, s4⟩ := hSw); go_simp; try with_reducible rfl)
  try simp only [Act.put, List.setIfInBounds_toArray, List.set_cons_zero, List.set_cons_succ]
  refine wpAnyH_take (i := 15) (oi := ⟨some 31, _, _, _, _, _⟩) (v := ?hu15) rfl (by kernel_rfl) (by kernel_rfl) (by kernel_rfl) (fun _ _ _ h => h) (Or.inl ⟨by rfl, ?hp15⟩) hHeld ?hq15
  case hp15 => (intro W hSw; (try dsimp only at hSw); (try obtain ⟨s1, s2, s3, s4⟩ := hSw); go_simp; try with_reducible rfl)
  try simp only [Act.put, List.setIfInBounds_toArray, List.set_cons_zero, List.set_cons_succ]
  refine wpAnyH_take (i := 16) (oi := ⟨some 32, _, _, _, _, _⟩) (v := ?hu16) rfl (by kernel_rfl) (by kernel_rfl) (by kernel_rfl) (fun _ _ _ h => h) (Or.inl ⟨by rfl, ?hp16⟩) hHeld ?hq16
  case hp16 => (intro W hSw; (try dsimp only at hSw); (try obtain ⟨s1, s2, s3, s4⟩ := hSw); go_simp; try with_reducible rfl)
  try simp only [Act.put, List.setIfInBounds_toArray, List.set_cons_zero, List.set_cons_succ]
  refine wpAnyH_take (i := 17) (oi := ⟨some 33, _, _, _, _, _⟩) (v := ?hu17) rfl (by kernel_rfl) (by kernel_rfl) (by kernel_rfl) (fun _ _ _ h => h) (Or.inl ⟨by rfl, ?hp17⟩) hHeld ?hq17
  case hp17 => (intro W hSw; (try dsimp only at hSw); (try obtain ⟨s1, s2, s3, s4⟩ := hSw); go_simp; try with_reducible rfl)
  try simp only [Act.put, List.setIfInBounds_toArray, List.set_cons_zero, List.set_cons_succ]
  refine wpAnyH_take (i := 18) (oi := ⟨some 34, _, _, _, _, _⟩) (v := ?hu18) rfl (by kernel_rfl) (by kernel_rfl) (by kernel_rfl) (fun _ _ _ h => h) (Or.inl ⟨by rfl, ?hp18⟩) hHeld ?hq18
  case hp18 => (intro W hSw; (try dsimp only at hSw); (try obtain ⟨s1, s2, s3, s4⟩ := hSw); go_simp; try with_reducible rfl)
  try simp only [Act.put, List.setIfInBounds_toArray, List.set_cons_zero, List.set_cons_succ]
  refine wpAnyH_take (i := 19) (oi := ⟨some 35, _, _, _, _, _⟩) (v := ?hu19) rfl (by kernel_rfl) (by kernel_rfl) (by kernel_rfl) (fun _ _ _ h => h) (Or.inl ⟨by rfl, ?hp19⟩) hHeld ?hq19
  case hp19 => (intro W hSw; (try dsimp only at hSw); (try obtain ⟨s1, s2, s3, s4⟩ := hSw); go_simp; try with_reducible rfl)
  try simp only [Act.put, List.setIfInBounds_toArray, List.set_cons_zero, List.set_cons_succ]
  refine wpAnyH_take (i := 20) (oi := ⟨some 36, _, _, _, _, _⟩) (v := ?hu20) rfl (by kernel_rfl) (by kernel_rfl) (by kernel_rfl) (fun _ _ _ h => h) (Or.inl ⟨by rfl, ?hp20⟩) hHeld ?hq20
  case hp20 => (intro W hSw; (try dsimp only at hSw); (try obtain ⟨s1, s2, s3, s4⟩ := hSw); go_simp; try with_reducible rfl)
  try simp only [Act.put, List.setIfInBounds_toArray, List.set_cons_zero, List.set_cons_succ]
  refine wpAnyH_take (i := 21) (oi := ⟨some 37, _, _, _, _, _⟩) (v := ?hu21) rfl (by kernel_rfl) (by kernel_rfl) (by kernel_rfl) (fun _ _ _ h => h) (Or.inl ⟨by rfl, ?hp21⟩) hHeld ?hq21
  case hp21 => (intro W hSw; (try dsimp only at hSw); (try obtain ⟨s1, s2, s3, s4⟩ := hSw); go_simp; try with_reducible rfl)
  try simp only [Act.put, List.setIfInBounds_toArray, List.set_cons_zero, List.set_cons_succ]
  refine wpAnyH_take (i := 22) (oi := ⟨some 10, _, _, _, _, _⟩) (v := ?hu22) rfl (by kernel_rfl) (by kernel_rfl) (by kernel_rfl) (fun _ _ _ h => h) (Or.inl ⟨by rfl, ?hp22⟩) hHeld ?hq22
  case hp22 => (intro W hSw; (try dsimp only at hSw); (try obtain ⟨s1, s2, s3, s4⟩ := hSw); go_simp; try with_reducible rfl)
  try simp only [Act.put, List.setIfInBounds_toArray, List.set_cons_zero, List.set_cons_succ]
  refine wpAnyH_done (by kernel_rfl) ?_ _
  go_wp2_with fail
  go_ret
  exact ⟨rfl, HB2.out.trans (HB7.out.mono hz2)⟩
end Go.Proofs.YtjmdcpcoliljfaaGreatDoor

/- The function given to run in CentreRefuses: an input is accepted. -/
namespace Go.Proofs.YtjmdcpcoliljfaaGreatDoor
open Go.RowKit

/-- The blocks of four variables. -/
def Four (b1 b2 b3 b4 k : Nat) : Prop := k = b1 ∨ k = b2 ∨ k = b3 ∨ k = b4
set_option maxRecDepth 100000 in
set_option maxHeartbeats 16000000 in
theorem cl30_yes {F : Nat → Prop} {g : Nat} {S : Su} {c : Ce} {w : World} {b1 b2 b3 b4 : Nat} {u1 u2 u3 : Value} {l0 : Nat} {en : Ent} (h : CeAt F g S c w) (hok : CeOk c) (h20 : c.acc ≤ 20)
    (h1 : V1 b1 37 u1 w) (h2 : V1 b2 55 u2 w) (h3 : V1 b3 3 u3 w) (h4 : V1 b4 3 (.int .i64 (l0 : Int)) w) (hn : ∀ k, Four b1 b2 b3 b4 k → ¬ F k) (n12 : b1 ≠ b2) (n13 : b1 ≠ b3) (n14 : b1 ≠ b4) (n23 : b2 ≠ b3) (n24 : b2 ≠ b4) (n34 : b3 ≠ b4)
    (x : Inp) (A : Option Addr) (n cA : Nat) (hl : c.log.length = l0 + 1) (he : c.log[l0]? = some en) (het : en.time = x.time) (hec : en.text = x.call) (hct : c.time = x.time) :
    Calls Tryz.prog 30 #[.pointer (some ⟨g, 0, none⟩), inpV x A n cA, .int .i64 0, .pointer (some ⟨b1, 0, none⟩), .pointer (some ⟨b2, 0, none⟩), .pointer (some ⟨b3, 0, none⟩), .pointer (some ⟨b4, 0, none⟩)] w fun e w' => e = .returned (.bool true) ∧
      (∃ v oh, RefM F b1 b2 v oh c.fl c.ow w') ∧ V1 b3 3 (.int .i64 c.time) w' ∧ V1 b4 3 (.int .i64 (c.log.length : Int)) w' ∧ Off (Four b1 b2 b3 b4) w w' := by
  obtain ⟨y, hM⟩ := h
  have HM := Lib.hid hM
  have HOk := Lib.hid hok
  have hbd : ∀ b, F b → b < w.heap.size := hM.bd
  have HLg := Lib.hid (fun (W : World) (hb : Below w.heap.size w W) => Log_any (hM.below hb) hok h20)
  have hl20 : l0 + 1 ≤ 20 := by have := hok.log; omega
  obtain ⟨V, hV⟩ : ∃ V, w.alloc (inpO x A n cA) = V := ⟨_, rfl⟩
  have hbV : Below w.heap.size w V := by rw [← hV]; exact (Below.refl _ _).alloc (Nat.le_refl _) _
  have hrV : V.heap[w.heap.size]? = some (inpO x A n cA) := by rw [← hV]; exact heap_alloc_new _ _
  have hzV : V.heap.size = w.heap.size + 1 := by rw [← hV, size_al]
  have HLg2 := Lib.hid (HLg.out V hbV)
  have HX := Lib.hid (fun (W : World) (hx : W.heap[w.heap.size]? = V.heap[w.heap.size]?) => (show W.cell? ⟨w.heap.size, 1, none⟩ = some (.int .i64 x.time) ∧ W.cell? ⟨w.heap.size, 2, none⟩ = some (.string x.call) from ⟨cell_of_row W _ 1 _ _ _ (hx.trans hrV), cell_of_row W _ 2 _ _ _ (hx.trans hrV)⟩))
  have HBV := Lib.hid hbV
  have HV1 := Lib.hid h1
  have HV2 := Lib.hid h2
  have HV3 := Lib.hid h3
  have HV4 := Lib.hid h4
  have HNF := Lib.hid hn
  have HL := Lib.hid hl
  have HEn := Lib.hid he
  have HEt := Lib.hid het
  have HEc := Lib.hid hec
  have HCt := Lib.hid hct
  have hlt1 := h1.lt
  have hlt2 := h2.lt
  have hlt3 := h3.lt
  have hlt4 := h4.lt
  clear hM hok h20 HLg hbV hrV h1 h2 h3 h4 hn hl he het hec hct
  unfold inpV
  unfold inpO at hV
  unfold LogP at HLg2
  go_enter Tryz.func30, Tryz.ntmps30
  go_upto_region 4 with (go_at_call 31; go_loud (refine HLg2.out.mono ?_; rintro e w2 ⟨lA, lc, rfl, ho2, hb2⟩; have HO2 := Lib.hid ho2; have HB2 := Lib.hid hb2; clear ho2 hb2))
  have hb2w := HBV.out.trans (HB2.out.mono HBV.out.size)
  have hz2 := hb2w.size
  have HB2w := Lib.hid hb2w
  obtain ⟨lb, lcap, hv, _, hlbl⟩ := HO2.out.1.form (by rw [HL.out]; omega)
  obtain rfl : lA = some ⟨lb, 0, none⟩ := by injection hv
  have HLo := Lib.hid (show w2.cell? ⟨lb, l0 * 4 + 1, none⟩ = some (.int .i64 x.time) ∧ w2.cell? ⟨lb, l0 * 4 + 3, none⟩ = some (.string x.call) from by
    have hll : l0 < c.log.length := by rw [HL.out]; omega
    have hE : c.log[l0]'hll = en := by have := HEn.out; rw [List.getElem?_eq_getElem hll] at this; exact Option.some.inj this
    have hrl : ∀ e : Ent, (rowE e).length = 4 := fun _ => rfl
    refine ⟨?_, ?_⟩
    · rw [HO2.out.1.cellAt (l0 * 4 + 1) (by omega), rowsV_at hrl c.log l0 hll 1 (by omega), hE, ← HEt.out]; rfl
    · rw [HO2.out.1.cellAt (l0 * 4 + 3) (by omega), rowsV_at hrl c.log l0 hll 3 (by omega), hE, ← HEc.out]; rfl)
  have k4 := (HV4.out.below HB2w.out).cell
  have z4 := (HV4.out.below HB2w.out).frozen
  have wl : IntKind.i64.wrap ((l0 : Int) + 1) = (l0 : Int) + 1 := IntWalk.i64_in _ (by omega)
  clear hv hb2w
  go_upto_region 5 with (fail)
  obtain ⟨w3, hw3⟩ : ∃ W, w2.setCell ⟨b4, 0, none⟩ (.int .i64 ((l0 : Int) + 1)) = W := ⟨_, rfl⟩
  rw [hw3]
  have HW3 := Lib.hid hw3
  have hz3 : w3.heap.size = w2.heap.size := by rw [← hw3]; simp [World.setCell]
  have hoth : ∀ k, k ≠ b4 → w3.heap[k]? = w2.heap[k]? := fun k hk => by rw [← hw3]; exact Below.heap_setCell _ _ _ _ hk
  have HOth := Lib.hid hoth
  have hv4 : V1 b4 3 (.int .i64 ((l0 : Int) + 1)) w3 := by rw [← hw3]; exact (HV4.out.below HB2w.out).set _
  have HV43 := Lib.hid hv4
  have hM3 : CeM F g S c y w3 := (HM.out.below HB2w.out).kept ⟨by omega, fun k _ hf => HOth.out k (fun e => HNF.out k (.inr (.inr (.inr e))) hf)⟩
  have HM3 := Lib.hid hM3
  have HFl := Lib.hid (Flights_any hM3 HOk.out)
  have HOw := Lib.hid (fun (W : World) (hb : Below w3.heap.size w3 W) => Owners_any (hM3.below hb) HOk.out)
  have HTm := Lib.hid (fun (W : World) (hb : Below w3.heap.size w3 W) => Time_any (hM3.below hb))
  have HV13 := Lib.hid (show V1 b1 37 u1 w3 from (HOth.out b1 n14).trans (HV1.out.below HB2w.out))
  have HV23 := Lib.hid (show V1 b2 55 u2 w3 from (HOth.out b2 n24).trans (HV2.out.below HB2w.out))
  have HV33 := Lib.hid (show V1 b3 3 u3 w3 from (HOth.out b3 n34).trans (HV3.out.below HB2w.out))
  clear hw3 hM3 hv4 hoth k4 z4
  unfold OwCp at HOw
  have tok : True := trivial
  go_upto_region 6 with (first
    | (go_at_call 14; go_loud (refine HFl.out.mono ?_; rintro e w4 ⟨⟨vA, vn, vc⟩, rfl, hc4, hb4⟩; have HC4 := Lib.hid hc4; have HB4 := Lib.hid hb4; clear hc4 hb4))
    | (go_at_call 20; go_loud (refine (HOw.out w4 HB4.out).mono ?_; rintro e w5 ⟨oA, oc, rfl, ho5, hb5⟩; have HO5 := Lib.hid ho5; have HB5 := Lib.hid (HB4.out.trans (hb5.mono HB4.out.size)); have HB45 := Lib.hid hb5; clear ho5 hb5))
    | (go_at_call 23; go_loud (refine (HTm.out w5 HB5.out).mono ?_; rintro e w6 ⟨rfl, hb6⟩; have HB6 := Lib.hid (HB5.out.trans (hb6.mono HB5.out.size)); have HB56 := Lib.hid hb6; have hv1 := HV13.out.below HB6.out; have hv2 := HV23.out.below HB6.out; have hv3 := HV33.out.below HB6.out; have k1 := hv1.cell; have z1 := hv1.frozen; have k2 := hv2.cell; have z2 := hv2.frozen; have k3 := hv3.cell; have z3 := hv3.frozen; clear hb6 hv1 hv2 hv3)))
  have hz6 := HB6.out.size
  simp only [HL.out, HCt.out]
  obtain ⟨w7, hw7⟩ : ∃ W, (((w6.setCell ⟨b1, 0, none⟩ (.slice vA vn vc)).setCell ⟨b2, 0, none⟩ (.slice oA c.ow.length oc)).setCell ⟨b3, 0, none⟩ (.int .i64 x.time)) = W := ⟨_, rfl⟩
  rw [hw7]
  have hz7 : w7.heap.size = w6.heap.size := by rw [← hw7]; simp [World.setCell]
  have ho7 : ∀ k, k ≠ b1 → k ≠ b2 → k ≠ b3 → w7.heap[k]? = w6.heap[k]? := fun k h1 h2 h3 => by
    rw [← hw7]
    exact (Below.heap_setCell _ _ _ _ h3).trans ((Below.heap_setCell _ _ _ _ h2).trans (Below.heap_setCell _ _ _ _ h1))
  have HO7 := Lib.hid ho7
  have HV17 := Lib.hid (show V1 b1 37 (.slice vA vn vc) w7 by rw [← hw7]; exact (((HV13.out.below HB6.out).set _).other n12 _).other n13 _)
  have HV27 := Lib.hid (show V1 b2 55 (.slice oA c.ow.length oc) w7 by rw [← hw7]; exact (((HV23.out.below HB6.out).other (Ne.symm n12) _).set _).other n23 _)
  have HV37 := Lib.hid (show V1 b3 3 (.int .i64 x.time) w7 by rw [← hw7]; exact (((HV33.out.below HB6.out).other (Ne.symm n13) _).other (Ne.symm n23) _).set _)
  have HV47 := Lib.hid (show V1 b4 3 (.int .i64 ((l0 : Int) + 1)) w7 by rw [← hw7]; exact (((HV43.out.below HB6.out).other (Ne.symm n14) _).other (Ne.symm n24) _).other (Ne.symm n34) _)
  have HW7 := Lib.hid hw7
  clear hw7 ho7 k1 z1 k2 z2 k3 z3
  -- a block that is no variable's, from w2 to w7
  have hkeep : ∀ k, k < w2.heap.size → ¬ Four b1 b2 b3 b4 k → w7.heap[k]? = w2.heap[k]? := fun k hk hf =>
    (HO7.out k (fun e => hf (.inl e)) (fun e => hf (.inr (.inl e))) (fun e => hf (.inr (.inr (.inl e))))).trans ((HB6.out.block k (by omega)).trans (HOth.out k (fun e => hf (.inr (.inr (.inr e))))))
  have HKeep := Lib.hid hkeep
  have hfw : ∀ k, w.heap.size ≤ k → ¬ Four b1 b2 b3 b4 k := fun k hk hf => by
    rcases hf with h | h | h | h <;> omega
  have hlbw : V.heap.size ≤ lb := HO2.out.2 lb rfl
  have hb7 := HKeep.out lb hlbl (hfw lb (by omega))
  have r1 := cell_regrown ((World.cell?_of_block (a := ⟨lb, l0 * 4 + 1, none⟩) hb7).trans HLo.out.1)
  have r2 := cell_regrown ((World.cell?_of_block (a := ⟨lb, l0 * 4 + 3, none⟩) hb7).trans HLo.out.2)
  have hx7 := (HKeep.out w.heap.size (by have := HB2.out.size; omega) (hfw _ (Nat.le_refl _))).trans (HB2.out.block w.heap.size (by omega))
  have r3 := cell_regrown (HX.out w7 hx7).1
  have r4 := cell_regrown (HX.out w7 hx7).2
  have r5 := cell_regrown HV37.out.cell
  have r6 := cell_regrown HV47.out.cell
  have wm : IntKind.i64.wrap ((l0 : Int) + 1 - 1) = (l0 : Int) := by rw [IntWalk.i64_in _ (by omega)]; omega
  have wn : IntKind.i64.wrap (l0 : Int) = (l0 : Int) := IntWalk.i64_in _ (by omega)
  have b0 : (0 : Int) ≤ (l0 : Int) := by omega
  have b5 : (l0 : Int) < (l0 : Int) + 1 := by omega
  have b6 : (l0 : Int) < ((l0 + 1 : Nat) : Int) := by omega
  have s1 : (x.call.toList == x.call.toList) = true := by simp
  clear hb7 hx7 hkeep
  refine wp_region_quiet_below (by kernel_rfl) (by kernel_rfl) ?_
  repeat (go_big_quiet_step (fail))
  refine wpQuiet_nil ?_
  intro w9 hwz
  have hb9 : Below w7.heap.size w7 w9 := by obtain ⟨⟨dq, osq⟩, rfl⟩ := hwz; exact below_regrown w7 _ _
  clear hwz r1 r2 r3 r4 r5 r6
  go_wp2_with fail
  go_ret
  have hq : ∀ k, (w3.heap.size ≤ k ∨ k < w3.heap.size) := fun k => by omega
  have hC7 : CpM (fun k => w3.heap.size ≤ k) ⟨vA, vn, vc⟩ c.fl w7 := by
    have h4 := HC4.out
    have h6 : CpM (fun k => w3.heap.size ≤ k) ⟨vA, vn, vc⟩ c.fl w6 := (h4.kept (.of_below HB45.out)).kept (.of_below HB56.out)
    rw [← HW7.out]
    have p1 : V1 b1 37 u1 w6 := HV13.out.below HB6.out
    have p2 : V1 b2 55 u2 (w6.setCell ⟨b1, 0, none⟩ (.slice vA vn vc)) := (HV23.out.below HB6.out).other (Ne.symm n12) _
    have p3 : V1 b3 3 u3 ((w6.setCell ⟨b1, 0, none⟩ (.slice vA vn vc)).setCell ⟨b2, 0, none⟩ (.slice oA c.ow.length oc)) := ((HV33.out.below HB6.out).other (Ne.symm n13) _).other (Ne.symm n23) _
    exact (((h6.set (p := ⟨b1, 0, none⟩) p1 (by decide) (by decide) (by decide) _).set (p := ⟨b2, 0, none⟩) p2 (by decide) (by decide) (by decide) _).set (p := ⟨b3, 0, none⟩) p3 (by decide) (by decide) (by decide) _)
  have hO7 : OwnF (fun k => w3.heap.size ≤ k) w7 57 3 (.slice oA c.ow.length oc) c.ow.length (rowsV owV c.ow) := by
    have h5 : OwnF (fun k => w3.heap.size ≤ k) w5 57 3 (.slice oA c.ow.length oc) c.ow.length (rowsV owV c.ow) := HO5.out.mono fun k hk => Nat.le_trans HB4.out.size hk
    refine (h5.kept (.of_below HB56.out)).stay fun k hk => ?_
    have hk3 : w3.heap.size ≤ k := h5.2 k hk
    exact HO7.out k (by omega) (by omega) (by omega)
  have hnF : ∀ k, w3.heap.size ≤ k → ¬ F k := fun k hk hf => by have := hbd k hf; omega
  have hR : RefM F b1 b2 ⟨vA, vn, vc⟩ ⟨oA, c.ow.length, oc⟩ c.fl c.ow w7 := ⟨HV17.out, HV27.out, HNF.out b1 (.inl rfl), HNF.out b2 (.inr (.inl rfl)), n12, hC7.mono hnF, rfl, hO7.mono hnF⟩
  refine ⟨rfl, ⟨_, _, hR.below hb9⟩, (by rw [HCt.out]; exact HV37.out.below hb9), ?_, ?_⟩
  · have h := HV47.out.below hb9
    rw [show ((l0 : Int) + 1) = ((l0 + 1 : Nat) : Int) by omega] at h
    rw [HL.out]; exact h
  · have hos : w7.os = w.os ∧ w7.tape = w.tape ∧ w7.output = w.output := by
      rw [← HW7.out]
      have h3 : w3.os = w2.os ∧ w3.tape = w2.tape ∧ w3.output = w2.output := by rw [← HW3.out]; exact ⟨rfl, rfl, rfl⟩
      exact ⟨(show w6.os = w.os from HB6.out.os.trans (h3.1.trans HB2w.out.os)), (show w6.tape = w.tape from HB6.out.tape.trans (h3.2.1.trans HB2w.out.tape)), (show w6.output = w.output from HB6.out.output.trans (h3.2.2.trans HB2w.out.output))⟩
    refine ⟨hb9.os.trans hos.1, hb9.tape.trans hos.2.1, hb9.output.trans hos.2.2, by have := hb9.size; omega, fun k hk hf => ?_⟩
    exact (hb9.block k (by omega)).trans ((HKeep.out k (by omega) hf).trans (HB2w.out.block k hk))
end Go.Proofs.YtjmdcpcoliljfaaGreatDoor

