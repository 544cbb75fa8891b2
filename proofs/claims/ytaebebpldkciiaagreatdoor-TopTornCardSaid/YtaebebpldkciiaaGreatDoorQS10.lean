/- Package season: late finds nothing. -/
import Derived.Test.YtaebebpldkciiaaGreatDoorQB3
import Derived.Test.YtaebebpldkciiaaGreatDoorQB4
namespace Go.Proofs.YtaebebpldkciiaaGreatDoor
open Go.RowKit
set_option maxRecDepth 100000 in
set_option maxHeartbeats 32000000 in
theorem late_any {F : Nat → Prop} {v : Hd} {xs : List Fm} {ts : List (List Hd)} {S : Su} {c : Ce} {w : World} (h : CpX F v xs ts c.fl w) (hok : CeOk c) (hp : Pw LandOne (LandTwo S) c.fl) :
  Calls Tryz.prog 41 #[.slice v.A v.n v.c, suA S] w fun e w' => e = .returned (.int .i64 0) ∧ Below w.heap.size w w' := by
 have h24 : c.fl.length ≤ 24 := by have := hok.ow.n; have := hok.len; omega
 obtain ⟨V, hV⟩ : ∃ V, w.alloc (suO S) = V := ⟨_, rfl⟩
 have hbV : Below w.heap.size w V := by rw [← hV]; exact (Below.refl _ _).alloc (Nat.le_refl _) _
 have hzV : V.heap.size = w.heap.size + 1 := by rw [← hV, size_al]
 have hgB : SuAt S w.heap.size V := by rw [← hV]; exact heap_alloc_new _ _
 have HB := Lib.hid hgB
 have HBV := Lib.hid hbV
 have HX := Lib.hid (h.kept (.of_below hbV))
 have HOk := Lib.hid hok
 have HP := Lib.hid hp
 obtain ⟨vA, vn, vc⟩ := v
 have HVn : Hid (vn = c.fl.length) := Lib.hid h.n
 have hv24 : vn ≤ 24 := by rw [HVn.out]; exact h24
 unfold suO at hV
 unfold suA setupA
 clear h hok hp h24 hgB hbV
 have hBl : w.heap.size < V.heap.size := by omega
 clear hzV
 go_enter Tryz.func41, Tryz.ntmps41
 go_wp2_with fail
 go_loopw [12, 5] (fun s n wr => ∃ i : Nat, i ≤ vn ∧ s = .int .i64 (i : Int) ∧ n = .int .i64 0 ∧ Hid (Below V.heap.size V wr)) (fun s _ _ => vn - (intOf s).toNat)
 case atStart => exact ⟨0, by omega, rfl, rfl, Lib.hid (Below.refl _ _)⟩
 case round =>
  obtain ⟨i, hi, rfl, rfl, HBi⟩ := hrel
  obtain ⟨wo, hwo⟩ : ∃ wo : World, wo = wr := ⟨_, rfl⟩
  subst hwo
  have hzr := HBi.out.size
  by_cases hlt : i < vn
  ·have l0 : (0 : Int) ≤ (i : Int) := by omega
   have l1 : (i : Int) < (vn : Int) := by omega
   have hiw : IntKind.i64.wrap ((i : Int) + 1) = (i : Int) + 1 := IntWalk.i64_in _ (by omega)
   have hic : i < c.fl.length := by rw [← HVn.out]; exact hlt
   have HXi := Lib.hid (HX.out.kept (.of_below HBi.out))
   obtain ⟨b, hA, hb, hcell⟩ := HXi.out.cells hic
   have hA : vA = some ⟨b, 0, none⟩ := hA
   subst hA
   have HFl := Lib.hid (HXi.out.fl i hic)
   have hfm : c.fl[i]! ∈ c.fl := by rw [getElem!_pos c.fl i hic]; exact List.getElem_mem hic
   have HFok := Lib.hid (HOk.out.fl _ hfm)
   have HLo := Lib.hid (HP.out.o _ hfm)
   have HFm := Lib.hid hfm
   have HNi := Lib.hid hic
   obtain ⟨f, hf⟩ : ∃ f, c.fl[i]! = f := ⟨_, rfl⟩
   have HFi := Lib.hid hf
   rw [hf] at HFl HFok HLo HFm
   obtain ⟨x, hx⟩ : ∃ x, xs[i]! = x := ⟨_, rfl⟩
   rw [hx] at HFl hcell
   have q0 := hcell 0 (by decide)
   have q1 := hcell 1 (by decide)
   have q2 := hcell 2 (by decide)
   have q3 := hcell 3 (by decide)
   have q4 := hcell 4 (by decide)
   have q5 := hcell 5 (by decide)
   have q6 := hcell 6 (by decide)
   have q7 := hcell 7 (by decide)
   simp only [fmV, List.getElem?_cons_succ, List.getElem?_cons_zero, Nat.add_zero] at q0 q1 q2 q3 q4 q5 q6 q7
   have hlands := HFl.out.lands
   have hland := HFl.out.land
   have hslot := HFl.out.slot
   have hwake := HFl.out.wake
   obtain ⟨fcall, fwake, fslot, flands, fla, fln, flc, fna, fnn, fnc, fland, fnland⟩ := x
   dsimp only at q0 q1 q2 q3 q4 q5 q6 q7 hlands hland hslot hwake
   have hye : flands = true → fland ≤ fslot := fun h => by
    rw [hland, hslot]
    have h' : f.lands = true := by rw [← hlands]; exact h
    exact (HLo.out.l1 h').2
   have HLands := Lib.hid hlands
   have HLand := Lib.hid hland
   have HWake := Lib.hid hwake
   have HYe := Lib.hid hye
   clear hlands hland hwake hye hslot hcell hf hfm hx
   have hcap := HXi.out.capN
   dsimp only at hcap
   go_upto_region 5 with (fail)
   obtain ⟨w8, hw8⟩ : ∃ W, wo.alloc (.cells #[.string fcall, .int .i64 fwake, .int .i64 fslot, .bool flands, .slice fla fln flc, .slice fna fnn fnc, .int .i64 fland, .int .i64 fnland] 46) = W := ⟨_, rfl⟩
   rw [hw8]
   have hbw8 : Below wo.heap.size wo w8 := by rw [← hw8]; exact (Below.refl _ _).alloc (Nat.le_refl _) _
   have hrw8 : w8.heap[wo.heap.size]? = some (.cells #[.string fcall, .int .i64 fwake, .int .i64 fslot, .bool flands, .slice fla fln flc, .slice fna fnn fnc, .int .i64 fland, .int .i64 fnland] 46 (0, 0)) := by rw [← hw8]; exact heap_alloc_new _ _
   have hzw8 : w8.heap.size = wo.heap.size + 1 := by rw [← hw8, size_al]
   clear hw8
   clear q0 q1 q2 q3 q4 q5 q6 q7
   have r3 : w8.cell? ⟨wo.heap.size, 3, none⟩ = some (.bool flands) := cell_of_row w8 _ 3 _ 46 (0, 0) hrw8
   have HB8 := Lib.hid (HBi.out.trans (hbw8.mono hzr))
   have HBo8 := Lib.hid hbw8
   have HR8 := Lib.hid hrw8
   cases flands with
   | false =>
    clear hrw8 hbw8
    go_wp2_with fail
    go_roundw
    case rel => exact ⟨i + 1, by omega, by go_num, rfl, HB8⟩
    case measure => simp [intOf]; omega
   | true =>
    have y1 := HYe.out rfl
    have d1 : decide (fslot < fland) = false := decide_eq_false (by omega)
    have r2 : w8.cell? ⟨wo.heap.size, 2, none⟩ = some (.int .i64 fslot) := cell_of_row w8 _ 2 _ 46 (0, 0) hrw8
    have r6 : w8.cell? ⟨wo.heap.size, 6, none⟩ = some (.int .i64 fland) := cell_of_row w8 _ 6 _ 46 (0, 0) hrw8
    clear hrw8 hbw8
    obtain ⟨A2, c2, hsl, hA2⟩ := takeFl (A := some ⟨b, 0, none⟩) (c := vc) vn i (by omega) hcap.1 hcap.2.1 hcap.2.2
    go_wp2_with fail
    go_loopw [31, 5] (fun s n wr => ∃ j : Nat, j ≤ i ∧ s = .int .i64 (j : Int) ∧ n = .int .i64 0 ∧ Hid (Below w8.heap.size w8 wr)) (fun s _ _ => i - (intOf s).toNat)
    case atStart => exact ⟨0, by omega, rfl, rfl, Lib.hid (Below.refl _ _)⟩
    case round =>
     obtain ⟨j, hj, rfl, rfl, HBj⟩ := hrel
     obtain ⟨wp, hwp⟩ : ∃ wp : World, wp = wr := ⟨_, rfl⟩
     subst hwp
     have hzj := HBj.out.size
     have hz8 := HB8.out.size
     have HBo := Lib.hid (HB8.out.trans (HBj.out.mono hz8))
     have HBoo := Lib.hid (HBo8.out.trans (HBj.out.mono HBo8.out.size))
     by_cases hjt : j < i
     ·have m0 : (0 : Int) ≤ (j : Int) := by omega
      have m1 : (j : Int) < (i : Int) := by omega
      have hjw : IntKind.i64.wrap ((j : Int) + 1) = (j : Int) + 1 := IntWalk.i64_in _ (by omega)
      have hjc : j < c.fl.length := by rw [← HVn.out]; omega
      obtain rfl := hA2 (by omega)
      have HXj := Lib.hid (HXi.out.kept (.of_below HBoo.out))
      obtain ⟨b', hA', hb', hcell'⟩ := HXj.out.cells hjc
      obtain rfl : b = b' := by injection hA' with hA'; injection hA'
      have HFl' := Lib.hid (HXj.out.fl j hjc)
      have hfm' : c.fl[j]! ∈ c.fl := by rw [getElem!_pos c.fl j hjc]; exact List.getElem_mem hjc
      have HFok' := Lib.hid (HOk.out.fl _ hfm')
      have HFm' := Lib.hid hfm'
      have HFj : Hid (∃ f', c.fl[j]! = f') := Lib.hid ⟨_, rfl⟩
      obtain ⟨f', hf'⟩ := HFj.out
      have HFe' := Lib.hid hf'
      rw [hf'] at HFl' HFok' HFm'
      obtain ⟨x', hx'⟩ : ∃ x, xs[j]! = x := ⟨_, rfl⟩
      rw [hx'] at HFl' hcell'
      have p0 := hcell' 0 (by decide)
      have p1 := hcell' 1 (by decide)
      have p2 := hcell' 2 (by decide)
      have p3 := hcell' 3 (by decide)
      have p4 := hcell' 4 (by decide)
      have p5 := hcell' 5 (by decide)
      have p6 := hcell' 6 (by decide)
      have p7 := hcell' 7 (by decide)
      simp only [fmV, List.getElem?_cons_succ, List.getElem?_cons_zero, Nat.add_zero] at p0 p1 p2 p3 p4 p5 p6 p7
      have HGl := Lib.hid HFl'.out.lands
      have HGd := Lib.hid HFl'.out.land
      have HGw := Lib.hid HFl'.out.wake
      obtain ⟨gcall, gwake, gslot, glands, gla, gln, glc, gna, gnn, gnc, gland, gnland⟩ := x'
      dsimp only at p0 p1 p2 p3 p4 p5 p6 p7 HGl HGd HGw
      clear hcell' hf' hx' hfm' hA'
      go_upto_region 11 with (fail)
      obtain ⟨wq, hwq⟩ : ∃ W, wp.alloc (.cells #[.string gcall, .int .i64 gwake, .int .i64 gslot, .bool glands, .slice gla gln glc, .slice gna gnn gnc, .int .i64 gland, .int .i64 gnland] 46) = W := ⟨_, rfl⟩
      rw [hwq]
      have hbwq : Below wp.heap.size wp wq := by rw [← hwq]; exact (Below.refl _ _).alloc (Nat.le_refl _) _
      have hrwq : wq.heap[wp.heap.size]? = some (.cells #[.string gcall, .int .i64 gwake, .int .i64 gslot, .bool glands, .slice gla gln glc, .slice gna gnn gnc, .int .i64 gland, .int .i64 gnland] 46 (0, 0)) := by rw [← hwq]; exact heap_alloc_new _ _
      have hzwq : wq.heap.size = wp.heap.size + 1 := by rw [← hwq, size_al]
      clear hwq
      have hl10 : wo.heap.size < w8.heap.size := by omega
      have hrf : wq.heap[wo.heap.size]? = some (.cells #[.string fcall, .int .i64 fwake, .int .i64 fslot, .bool true, .slice fla fln flc, .slice fna fnn fnc, .int .i64 fland, .int .i64 fnland] 46 (0, 0)) := ((HBj.out.trans (hbwq.mono hzj)).block wo.heap.size hl10).trans HR8.out
      have hBq : SuAt S w.heap.size wq := ((HBo.out.trans (hbwq.mono HBo.out.size)).block w.heap.size hBl).trans HB.out
      clear p0 p1 p2 p3 p4 p5 p6 p7
      have t3 := cell_regrown (show wq.cell? ⟨wp.heap.size, 3, none⟩ = some (.bool glands) from cell_of_row wq _ 3 _ 46 (0, 0) hrwq)
      have HBq := Lib.hid (HBj.out.trans (hbwq.mono hzj))
      cases glands with
      | false =>
       refine wp_region_quiet_below (by kernel_rfl) (by kernel_rfl) ?_
       repeat (go_big_quiet_step (fail))
       refine wpQuiet_nil ?_
       intro wz hwz
       have hbz : Below wq.heap.size wq wz := by obtain ⟨⟨dq, osq⟩, rfl⟩ := hwz; exact below_regrown wq _ _
       clear hwz
       go_wp2_with fail
       go_roundw
       case rel => exact ⟨j + 1, by omega, by go_num, rfl, Lib.hid (HBq.out.trans (hbz.mono HBq.out.size))⟩
       case measure => simp [intOf]; omega
      | true =>
       have s6 := cell_regrown (show wq.cell? ⟨wo.heap.size, 6, none⟩ = some (.int .i64 fland) from cell_of_row wq _ 6 _ 46 (0, 0) hrf)
       have t6 := cell_regrown (show wq.cell? ⟨wp.heap.size, 6, none⟩ = some (.int .i64 gland) from cell_of_row wq _ 6 _ 46 (0, 0) hrwq)
       have hw1 : ∃ wf : Nat, fwake = (wf : Int) ∧ wf < 4 ∧ f.wake.toNat = wf := ⟨fwake.toNat, by have h1 := HWake.out; have h2 := HFok.out.wk; rw [← h1] at h2; omega, by have h1 := HWake.out; have h2 := HFok.out.wk; rw [← h1] at h2; omega, by rw [← HWake.out]⟩
       have hw2 : ∃ wg : Nat, gwake = (wg : Int) ∧ wg < 4 ∧ f'.wake.toNat = wg := ⟨gwake.toNat, by have h1 := HGw.out; have h2 := HFok'.out.wk; rw [← h1] at h2; omega, by have h1 := HGw.out; have h2 := HFok'.out.wk; rw [← h1] at h2; omega, by rw [← HGw.out]⟩
       obtain ⟨wf, hwf, hwf4, hwfn⟩ := hw1
       obtain ⟨wg, hwg, hwg4, hwgn⟩ := hw2
       have s1 := cell_regrown (show wq.cell? ⟨wo.heap.size, 1, none⟩ = some (.int .i64 (wf : Int)) by rw [← hwf]; exact cell_of_row wq _ 1 _ 46 (0, 0) hrf)
       have t1 := cell_regrown (show wq.cell? ⟨wp.heap.size, 1, none⟩ = some (.int .i64 (wg : Int)) by rw [← hwg]; exact cell_of_row wq _ 1 _ 46 (0, 0) hrwq)
       have g1 := cell_regrown (hBq.gap hwg4 hwf4)
       have g2 := cell_regrown (hBq.gap hwf4 hwg4)
       have hnear : (decide (fland - gland < S.g (4 * wg + wf)) && decide (gland - fland < S.g (4 * wf + wg))) = false := by
        have h1 := HP.out.t f HFm.out f' HFm'.out ?ne (by rw [← HLands.out]) (by rw [← HGl.out]) f.land f'.land (.inl rfl) (.inl rfl)
        ·unfold nearU at h1
         rw [hwfn, hwgn, ← HLand.out, ← HGd.out] at h1
         exact h1
        ·intro he
         have hij := calls_inj HOk.out (i := i) (j := j) HNi.out hjc (by rw [HFi.out, HFe'.out]; exact he)
         omega
       have bfl : 0 ≤ fland ∧ fland ≤ 200000 := by have h2 := HFok.out.land; rw [← HLand.out] at h2; exact h2
       have bgl : 0 ≤ gland ∧ gland ≤ 200000 := by have h2 := HFok'.out.land; rw [← HGd.out] at h2; exact h2
       have v1 : IntKind.i64.wrap (fland - gland) = fland - gland := IntWalk.i64_in _ (by omega)
       have v2 : IntKind.i64.wrap (gland - fland) = gland - fland := IntWalk.i64_in _ (by omega)
       have u0 : (0 : Int) ≤ (wf : Int) := by omega
       have u1 : (wf : Int) < 4 := by omega
       have u2 : (0 : Int) ≤ (wg : Int) := by omega
       have u3 : (wg : Int) < 4 := by omega
       generalize S.g (4 * wg + wf) = G1 at g1 hnear
       generalize S.g (4 * wf + wg) = G2 at g2 hnear
       clear hwf hwg hwfn hwgn bfl bgl hBq hrf hrwq HFl HFl' y1 d1 HYe
       cases e1 : decide (fland - gland < G1) with
       | false =>
        clear hnear
        refine wp_region_quiet_below (by kernel_rfl) (by kernel_rfl) ?_
        repeat (go_big_quiet_step (fail))
        refine wpQuiet_nil ?_
        intro wz hwz
        have hbz : Below wq.heap.size wq wz := by obtain ⟨⟨dq, osq⟩, rfl⟩ := hwz; exact below_regrown wq _ _
        clear hwz
        go_wp2_with fail
        go_roundw
        case rel => exact ⟨j + 1, by omega, by go_num, rfl, Lib.hid (HBq.out.trans (hbz.mono HBq.out.size))⟩
        case measure => simp [intOf]; omega
       | true =>
        have e2 : decide (gland - fland < G2) = false := by rw [e1] at hnear; simpa using hnear
        clear hnear
        refine wp_region_quiet_below (by kernel_rfl) (by kernel_rfl) ?_
        repeat (go_big_quiet_step (fail))
        refine wpQuiet_nil ?_
        intro wz hwz
        have hbz : Below wq.heap.size wq wz := by obtain ⟨⟨dq, osq⟩, rfl⟩ := hwz; exact below_regrown wq _ _
        clear hwz
        go_wp2_with fail
        go_roundw
        case rel => exact ⟨j + 1, by omega, by go_num, rfl, Lib.hid (HBq.out.trans (hbz.mono HBq.out.size))⟩
        case measure => simp [intOf]; omega
     ·obtain rfl : i = j := by omega
      go_wp2_with fail
      go_roundw
      case rel => exact ⟨i + 1, by omega, by go_num, rfl, HBo⟩
      case measure => simp [intOf]; omega
  ·obtain rfl : vn = i := by omega
   go_wp2_with fail
   go_ret
   exact ⟨rfl, HBV.out.trans (HBi.out.mono HBV.out.size)⟩
end Go.Proofs.YtaebebpldkciiaaGreatDoor
