/- Package season: end. -/
import Derived.Test.YtaebebpldkciiaaGreatDoorQB3
import Derived.Maps.AppendAt
namespace Go.Proofs.YtaebebpldkciiaaGreatDoor
open Go.RowKit
def endL (n : Int) (l : List Tu) : Int := l.foldl (fun n t => if 0 < t.length then max n (lstT t) else n) n
def endF (n : Int) (f : Fl) : Int := endL n (f.legs ++ [f.next])
def endT (fl : List Fl) : Int := fl.foldl endF 0
theorem endL_snoc (n : Int) (l : List Tu) (t : Tu) : endL n (l ++ [t]) = if 0 < t.length then max (endL n l) (lstT t) else endL n l := by
 unfold endL; rw [List.foldl_append]; rfl
theorem take_snocS {α : Type} [Inhabited α] (l : List α) (k : Nat) (h : k < l.length) : l.take (k + 1) = l.take k ++ [l[k]!] := by
 rw [List.take_add_one, List.getElem?_eq_getElem h, getElem!_pos l k h]; rfl
structure HdsA (b n : Nat) (ts : List Hd) (l : List Tu) (W : World) : Prop where
 tl : ts.length = n
 ln : l.length = n
 lt : b < W.heap.size
 row : ∀ q, q < n → W.cell? ⟨b, q, none⟩ = some (.slice (ts[q]!).A (ts[q]!).n (ts[q]!).c)
 tu : ∀ q, q < n → TuA (ts[q]!).A (ts[q]!).n l[q]! W
theorem HdsA.below {b n : Nat} {ts : List Hd} {l : List Tu} {W W' : World} (h : HdsA b n ts l W) (hb : Below W.heap.size W W') : HdsA b n ts l W' :=
 ⟨h.tl, h.ln, Nat.lt_of_lt_of_le h.lt hb.size, fun q hq => (hb.cell (p := ⟨b, q, none⟩) h.lt).trans (h.row q hq), fun q hq => (h.tu q hq).below hb⟩
theorem hds_of {W : World} {base m c : Nat} {b : Nat} {ts : List Hd} {l : List Tu} (h : W.ownsRow base 44 1 (.slice (some ⟨b, 0, none⟩) m c) m (rowsV hdV ts)) (ht : ts.length = m) (hl : l.length = m) (htu : ∀ q, q < m → TuA (ts[q]!).A (ts[q]!).n l[q]! W) (_hm : 0 < m) : HdsA b m ts l W := by
 refine ⟨ht, hl, (h.lt b rfl).2, fun q hq => ?_, htu⟩
 rw [h.cellAt q (by omega)]
 have := rowsV_at hdV_len ts q (by omega) 0 (by omega)
 rw [Nat.mul_one, Nat.add_zero] at this
 rw [this, getElem!_pos ts q (by omega)]
 rfl
theorem hds_flight {F : Nat → Prop} {x : Fm} {ts : List Hd} {f : Fl} {W : World} {base b c : Nat} (hf : FlM F x ts f W) (h : W.ownsRow base 44 1 (.slice (some ⟨b, 0, none⟩) (f.legs.length + 1) c) (f.legs.length + 1) (rowsV hdV (ts ++ [⟨x.na, x.nn, x.nc⟩]))) :
  HdsA b (f.legs.length + 1) (ts ++ [⟨x.na, x.nn, x.nc⟩]) (f.legs ++ [f.next]) W := by
 have htl := hf.tl
 refine hds_of h (by simp [htl]) (by simp) (fun q hq => ?_) (by omega)
 by_cases hql : q < f.legs.length
 ·have e1 : (ts ++ [(⟨x.na, x.nn, x.nc⟩ : Hd)])[q]! = ts[q]! := by
   rw [getElem!_pos _ q (by simp; omega), getElem!_pos ts q (by omega), List.getElem_append_left (by omega)]
  have e2 : (f.legs ++ [f.next])[q]! = f.legs[q]! := by
   rw [getElem!_pos _ q (by simp; omega), getElem!_pos f.legs q (by omega), List.getElem_append_left (by omega)]
  rw [e1, e2]
  exact (hf.leg q hql).tua
 ·obtain rfl : q = f.legs.length := by omega
  have e1 : (ts ++ [(⟨x.na, x.nn, x.nc⟩ : Hd)])[f.legs.length]! = ⟨x.na, x.nn, x.nc⟩ := by
   rw [getElem!_pos _ _ (by simp; omega), List.getElem_append_right (by omega)]; simp [htl]
  have e2 : (f.legs ++ [f.next])[f.legs.length]! = f.next := by
   rw [getElem!_pos _ _ (by simp), List.getElem_append_right (by omega)]; simp
  rw [e1, e2]
  exact hf.next.tua
set_option maxRecDepth 100000 in
set_option maxHeartbeats 16000000 in
theorem SEnd_any {F : Nat → Prop} {v : Hd} {xs : List Fm} {ts : List (List Hd)} {fl : List Fl} {w : World} (h : CpX F v xs ts fl w) (hok : ∀ f ∈ fl, FlOk f) (h24 : fl.length ≤ 24) :
  Calls Tryz.prog 38 #[.slice v.A v.n v.c] w fun e w' => e = .returned (.int .i64 (endT fl)) ∧ Below w.heap.size w w' := by
 have HX := Lib.hid h
 have HOk := Lib.hid hok
 obtain ⟨vA, vn, vc⟩ := v
 have HN : Hid (vn = fl.length) := Lib.hid h.n
 have hvn : vn ≤ 24 := by rw [HN.out]; exact h24
 clear h hok h24
 go_enter Tryz.func38, Tryz.ntmps38
 go_wp2_with fail
 go_loopw [10, 3] (fun s n wr => ∃ j : Nat, j ≤ vn ∧ s = .int .i64 (j : Int) ∧ n = .int .i64 ((fl.take j).foldl endF 0) ∧ Hid (Below w.heap.size w wr)) (fun s _ _ => vn - (intOf s).toNat)
 case atStart => exact ⟨0, by omega, rfl, rfl, Lib.hid (Below.refl _ _)⟩
 case round =>
  obtain ⟨j, hj, rfl, rfl, HB⟩ := hrel
  obtain ⟨wo, hwo⟩ : ∃ wo : World, wo = wr := ⟨_, rfl⟩
  subst hwo
  have hzr := HB.out.size
  by_cases hjt : j < vn
  ·have l0 : (0 : Int) ≤ (j : Int) := by omega
   have l1 : (j : Int) < (vn : Int) := by omega
   have hjw : IntKind.i64.wrap ((j : Int) + 1) = (j : Int) + 1 := IntWalk.i64_in _ (by omega)
   have hjc : j < fl.length := by rw [← HN.out]; exact hjt
   have HXj := Lib.hid (HX.out.kept (.of_below HB.out))
   obtain ⟨b, hA, hb, hcell⟩ := HXj.out.cells hjc
   have hA : vA = some ⟨b, 0, none⟩ := hA
   subst hA
   have hfm : fl[j]! ∈ fl := by rw [getElem!_pos fl j hjc]; exact List.getElem_mem hjc
   have HFok := Lib.hid (HOk.out _ hfm)
   have HTk := Lib.hid (show (fl.take (j + 1)).foldl endF 0 = endF ((fl.take j).foldl endF 0) fl[j]! by rw [take_snocS fl j hjc, List.foldl_append]; rfl)
   have HFj := Lib.hid (HXj.out.fl j hjc)
   obtain ⟨x, hx⟩ : ∃ x, xs[j]! = x := ⟨_, rfl⟩
   obtain ⟨tl, htl⟩ : ∃ t, ts[j]! = t := ⟨_, rfl⟩
   obtain ⟨f, hf⟩ : ∃ f, fl[j]! = f := ⟨_, rfl⟩
   rw [hx] at hcell
   rw [hx, htl, hf] at HFj
   rw [hf] at HFok HTk
   have q0 := hcell 0 (by decide)
   have q1 := hcell 1 (by decide)
   have q2 := hcell 2 (by decide)
   have q3 := hcell 3 (by decide)
   have q4 := hcell 4 (by decide)
   have q5 := hcell 5 (by decide)
   have q6 := hcell 6 (by decide)
   have q7 := hcell 7 (by decide)
   simp only [fmV, List.getElem?_cons_succ, List.getElem?_cons_zero, Nat.add_zero] at q0 q1 q2 q3 q4 q5 q6 q7
   have HNc := Lib.hid hjc
   clear hcell hfm hx htl hf hjc hb
   obtain ⟨fcall, fwake, fslot, flands, fla, fln, flc, fna, fnn, fnc, fland, fnland⟩ := x
   dsimp only at q0 q1 q2 q3 q4 q5 q6 q7
   obtain ⟨nj, hnj⟩ : ∃ n, (fl.take j).foldl endF 0 = n := ⟨_, rfl⟩
   have HNj := Lib.hid hnj
   rw [hnj] at HTk ⊢
   clear hnj
   go_upto_region 5 with (fail)
   obtain ⟨w4, hw4⟩ : ∃ W, wo.alloc (.cells #[.string fcall, .int .i64 fwake, .int .i64 fslot, .bool flands, .slice fla fln flc, .slice fna fnn fnc, .int .i64 fland, .int .i64 fnland] 46) = W := ⟨_, rfl⟩
   rw [hw4]
   have hb4 : Below wo.heap.size wo w4 := by rw [← hw4]; exact (Below.refl _ _).alloc (Nat.le_refl _) _
   have hr4 : w4.heap[wo.heap.size]? = some (.cells #[.string fcall, .int .i64 fwake, .int .i64 fslot, .bool flands, .slice fla fln flc, .slice fna fnn fnc, .int .i64 fland, .int .i64 fnland] 46 (0, 0)) := by rw [← hw4]; exact heap_alloc_new _ _
   have hz4 : w4.heap.size = wo.heap.size + 1 := by rw [← hw4, size_al]
   clear hw4 q0 q1 q2 q3 q4 q5 q6 q7
   have HBw4 := Lib.hid (HB.out.trans (hb4.mono hzr))
   have HF4 := Lib.hid (HFj.out.kept (.of_below hb4))
   have HR4 := Lib.hid (fun (W : World) (hb : Below w4.heap.size w4 W) => (show W.cell? ⟨wo.heap.size, 4, none⟩ = some (.slice fla fln flc) ∧ W.cell? ⟨wo.heap.size, 5, none⟩ = some (.slice fna fnn fnc) from
    ⟨cell_of_row W _ 4 _ _ _ ((hb.block _ (by omega)).trans hr4), cell_of_row W _ 5 _ _ _ ((hb.block _ (by omega)).trans hr4)⟩))
   obtain ⟨m, hm⟩ : ∃ m, f.legs.length = m := ⟨_, rfl⟩
   have HM := Lib.hid hm
   have hm0 : 0 < m := by rw [← hm]; exact HFok.out.n0
   have hm6 : m ≤ 6 := by rw [← hm]; exact HFok.out.n1
   have HCl := Lib.hid (fun (W : World) (hb : Below w4.heap.size w4 W) => (by
    have hf := HF4.out.kept (.of_below hb)
    have := CloneLg_of hf.legs hf.ln hf.tl (by rw [hm]; exact hm0) (by rw [hm]; exact hm6)
    rw [hm] at this
    exact this : Calls Tryz.prog 45 #[.slice fla fln flc] W fun e w' => ∃ b2 c2 : Nat, e = .returned (.slice (some ⟨b2, 0, none⟩) m c2) ∧ w'.ownsRow W.heap.size 44 1 (.slice (some ⟨b2, 0, none⟩) m c2) m (rowsV hdV tl) ∧ Below W.heap.size W w'))
   clear hb4 hr4 hz4 hm
   have HVd := Lib.hid ((Below.refl w4.heap.size w4).drew)
   go_cut [20, 21, 22] from 14 to 40 (fun s20 s21 s22 wx => ∃ b3 c3 : Nat, s20 = .slice (some ⟨b3, 0, none⟩) (m + 1) c3 ∧ s21 = .int .i64 ((m : Int) + 1) ∧ s22 = .int .i64 0 ∧ wx.ownsRow w4.heap.size 44 1 (.slice (some ⟨b3, 0, none⟩) (m + 1) c3) (m + 1) (rowsV hdV (tl ++ [⟨fna, fnn, fnc⟩])) ∧ Below w4.heap.size w4 wx)
   case first =>
    obtain ⟨i33, J0, J1, J2, J3⟩ := info_parts CloneLg_info
    refine wp_region_held_drew (S := (fun W => W.cell? ⟨wo.heap.size, 4, none⟩ = some (.slice fla fln flc) ∧ W.cell? ⟨wo.heap.size, 5, none⟩ = some (.slice fna fnn fnc))) (by kernel_rfl) (HR4.out _ HVd.out) (fun hHeld => ?_)
    refine wpAnyH_take (i := 0) (oi := ⟨some 14, _, _, _, _, _⟩) (v := ?h1u) rfl (by kernel_rfl) (by kernel_rfl) (by kernel_rfl) (fun _ _ _ h => h) (Or.inl ⟨by rfl, ?h1p⟩) hHeld ?h1q
    case h1p => (intro W hSw; (try dsimp only at hSw); (try obtain ⟨s1, s2⟩ := hSw); go_simp; try with_reducible rfl)
    try simp only [Act.put, zI, zO, zS]
    refine wpAnyH_take (i := 1) (oi := ⟨some 15, _, _, _, _, _⟩) (v := ?h2u) rfl (by kernel_rfl) (by kernel_rfl) (by kernel_rfl) (fun _ _ _ h => h) (Or.inl ⟨by rfl, ?h2p⟩) hHeld ?h2q
    case h2p => (intro W hSw; (try dsimp only at hSw); (try obtain ⟨s1, s2⟩ := hSw); go_simp; try with_reducible rfl)
    try simp only [Act.put, zI, zO, zS]
    refine wpAnyH_take (i := 3) (oi := ⟨some 17, _, _, _, _, _⟩) (v := ?h3u) rfl (by kernel_rfl) (by kernel_rfl) (by kernel_rfl) (fun _ _ _ h => h) (Or.inl ⟨by rfl, ?h3p⟩) hHeld ?h3q
    case h3p => (intro W hSw; (try dsimp only at hSw); (try obtain ⟨s1, s2⟩ := hSw); go_simp; try with_reducible rfl)
    try simp only [Act.put, zI, zO, zS]
    refine wpAnyH_take (i := 4) (oi := ⟨some 18, _, _, _, _, _⟩) (v := ?h4u) rfl (by kernel_rfl) (by kernel_rfl) (by kernel_rfl) (fun _ _ _ h => h) (Or.inl ⟨by rfl, ?h4p⟩) hHeld ?h4q
    case h4p => (intro W hSw; (try dsimp only at hSw); (try obtain ⟨s1, s2⟩ := hSw); go_simp; try with_reducible rfl)
    try simp only [Act.put, zI, zO, zS]
    refine wpAnyH_take (i := 8) (oi := ⟨some 22, _, _, _, _, _⟩) (v := ?h5u) rfl (by kernel_rfl) (by kernel_rfl) (by kernel_rfl) (fun _ _ _ h => h) (Or.inl ⟨by rfl, ?h5p⟩) hHeld ?h5q
    case h5p => (intro W hSw; (try dsimp only at hSw); (try obtain ⟨s1, s2⟩ := hSw); go_simp; try with_reducible rfl)
    try simp only [Act.put, zI, zO, zS]
    refine wpAnyH_ready (rs := [2, 5]) (by kernel_rfl) (by simp) ?_
    refine (AllReadyH.cons (o := ⟨some 16, _, _, _, _, _⟩) rfl (fun K hK => ?_) (AllReadyH.cons (o := ⟨some 19, _, _, _, _, _⟩) rfl (fun K hK => ?_) AllReadyH.nil))
    ·go_simp
     go_at_call 45
     (with_reducible refine (HCl.out w4.drew HVd.out).mono ?_)
     rintro e w2 ⟨b2, c2, rfl, ho2, hb2⟩
     have HO2 := Lib.hid (show w2.ownsRow w4.heap.size 44 1 (.slice (some ⟨b2, 0, none⟩) m c2) m (rowsV hdV tl) from own_mono ho2 HVd.out.size)
     have HB2 := Lib.hid (HVd.out.trans (hb2.mono HVd.out.size))
     clear ho2 hb2
     refine hK.out _ _ (HR4.out _ HB2.out) (fun hHeld => ?_)
     clear hK K
     try simp only [Act.put, zI, zO, zS]
     refine wpAnyH_ready (rs := [5]) (by kernel_rfl) (by simp) ?_
     refine (AllReadyH.cons (o := ⟨some 19, _, _, _, _, _⟩) rfl (fun K hK => ?_) AllReadyH.nil)
     go_simp
     obtain ⟨Wa, hWa⟩ : ∃ W, w2.alloc (.cells #[.slice fna fnn fnc] 44) = W := ⟨_, rfl⟩
     rw [hWa]
     have HVa : Hid (Below w4.heap.size w4 Wa) := Lib.hid (by rw [← hWa]; exact HB2.out.alloc HB2.out.size _)
     have HC2 : Hid (Wa.heap[w2.heap.size]? = some (.cells #[.slice fna fnn fnc] 44 (0, 0))) := Lib.hid (by rw [← hWa]; exact heap_alloc_new _ _)
     have HOa : Hid (Wa.ownsRow w4.heap.size 44 1 (.slice (some ⟨b2, 0, none⟩) m c2) m (rowsV hdV tl)) := Lib.hid (by rw [← hWa]; exact own_below HO2.out ((Below.refl _ _).alloc (Nat.le_refl _) _) (Nat.le_refl _))
     clear hWa
     refine hK.out _ _ (HR4.out _ HVa.out) (fun hHeld => ?_)
     clear hK K
     try simp only [Act.put, zI, zO, zS]
     refine wpAnyH_ready (rs := [6]) (by kernel_rfl) (by simp) ?_
     refine (AllReadyH.cons (o := ⟨some 20, _, _, _, _, _⟩) rfl (fun K hK => ?_) AllReadyH.nil)
     refine step_append_row Wa #[.slice fna fnn fnc] w2.heap.size rfl (.tmp 16) (.tmp 19) 42 rfl w4.heap.size 44 i33 _ 1 24 Tryz.underlying42 J0 J1 J2 J3 rfl (by decide) (.slice (some ⟨b2, 0, none⟩) m c2) m (rowsV hdV tl) rfl HOa.out rfl (by simp [Value.oneCell']) HC2.out rfl (by omega) (by omega) HVa.out.size ?_
     intro b3 c3 w3 ho3 hg3 _ _
     replace ho3 : w3.ownsRow w4.heap.size 44 1 (.slice (some ⟨b3, 0, none⟩) (m + 1) c3) (m + 1) (rowsV hdV (tl ++ [⟨fna, fnn, fnc⟩])) := by rw [rowsV_snoc hdV tl _]; exact ho3
     have HB3 := Lib.hid (HVa.out.grown hg3 HVa.out.size (fun k hk => by cases hk; exact (HO2.out.lt b2 rfl).1))
     refine hK.out _ _ (HR4.out _ HB3.out) (fun hHeld => ?_)
     clear hK K
     try simp only [Act.put, zI, zO, zS]
     refine wpAnyH_take (i := 7) (oi := ⟨some 21, _, _, _, _, _⟩) (v := ?h6u) rfl (by kernel_rfl) (by kernel_rfl) (by kernel_rfl) (fun _ _ _ h => h) (Or.inl ⟨by rfl, ?h6p⟩) hHeld ?h6q
     case h6p => (intro W hSw; (try dsimp only at hSw); (try obtain ⟨s1, s2⟩ := hSw); go_simp; try with_reducible rfl)
     try simp only [Act.put, zI, zO, zS]
     refine wpAnyH_done (by kernel_rfl) ?_ _
     go_wp2_with fail
     go_meet
     case rel => exact ⟨b3, c3, rfl, by go_num, rfl, ho3, HB3.out⟩
    ·go_simp
     obtain ⟨Wa, hWa⟩ : ∃ W, (w4.alloc (.cells #[.slice fna fnn fnc] 44)).drew = W := ⟨_, rfl⟩
     rw [hWa]
     have HVa : Hid (Below w4.heap.size w4 Wa) := Lib.hid (by rw [← hWa]; exact ((Below.refl w4.heap.size w4).alloc (Nat.le_refl _) _).drew)
     have HAa : Hid (Wa.heap[w4.heap.size]? = some (.cells #[.slice fna fnn fnc] 44 (0, 0))) := Lib.hid (by rw [← hWa]; exact heap_alloc_new w4 _)
     have HZa : Hid (Wa.heap.size = w4.heap.size + 1) := Lib.hid (by rw [← hWa]; exact size_al w4 _)
     clear hWa
     refine hK.out _ _ (HR4.out _ HVa.out) (fun hHeld => ?_)
     clear hK K
     try simp only [Act.put, zI, zO, zS]
     refine wpAnyH_ready (rs := [2]) (by kernel_rfl) (by simp) ?_
     refine (AllReadyH.cons (o := ⟨some 16, _, _, _, _, _⟩) rfl (fun K hK => ?_) AllReadyH.nil)
     go_simp
     go_at_call 45
     (with_reducible refine (HCl.out Wa HVa.out).mono ?_)
     rintro e w2 ⟨b2, c2, rfl, ho2, hb2⟩
     have HO2 := Lib.hid (show w2.ownsRow w4.heap.size 44 1 (.slice (some ⟨b2, 0, none⟩) m c2) m (rowsV hdV tl) from own_mono ho2 HVa.out.size)
     have HB2 := Lib.hid (HVa.out.trans (hb2.mono HVa.out.size))
     have HC2 := Lib.hid ((hb2.block w4.heap.size (show w4.heap.size < Wa.heap.size by rw [HZa.out]; omega)).trans HAa.out)
     clear ho2 hb2
     refine hK.out _ _ (HR4.out _ HB2.out) (fun hHeld => ?_)
     clear hK K
     try simp only [Act.put, zI, zO, zS]
     refine wpAnyH_ready (rs := [6]) (by kernel_rfl) (by simp) ?_
     refine (AllReadyH.cons (o := ⟨some 20, _, _, _, _, _⟩) rfl (fun K hK => ?_) AllReadyH.nil)
     refine step_append_row w2 #[.slice fna fnn fnc] w4.heap.size rfl (.tmp 16) (.tmp 19) 42 rfl w4.heap.size 44 i33 _ 1 24 Tryz.underlying42 J0 J1 J2 J3 rfl (by decide) (.slice (some ⟨b2, 0, none⟩) m c2) m (rowsV hdV tl) rfl HO2.out rfl (by simp [Value.oneCell']) HC2.out rfl (by omega) (by omega) HB2.out.size ?_
     intro b3 c3 w3 ho3 hg3 _ _
     replace ho3 : w3.ownsRow w4.heap.size 44 1 (.slice (some ⟨b3, 0, none⟩) (m + 1) c3) (m + 1) (rowsV hdV (tl ++ [⟨fna, fnn, fnc⟩])) := by rw [rowsV_snoc hdV tl _]; exact ho3
     have HB3 := Lib.hid (HB2.out.grown hg3 HB2.out.size (fun k hk => by cases hk; exact (HO2.out.lt b2 rfl).1))
     refine hK.out _ _ (HR4.out _ HB3.out) (fun hHeld => ?_)
     clear hK K
     try simp only [Act.put, zI, zO, zS]
     refine wpAnyH_take (i := 7) (oi := ⟨some 21, _, _, _, _, _⟩) (v := ?h7u) rfl (by kernel_rfl) (by kernel_rfl) (by kernel_rfl) (fun _ _ _ h => h) (Or.inl ⟨by rfl, ?h7p⟩) hHeld ?h7q
     case h7p => (intro W hSw; (try dsimp only at hSw); (try obtain ⟨s1, s2⟩ := hSw); go_simp; try with_reducible rfl)
     try simp only [Act.put, zI, zO, zS]
     refine wpAnyH_done (by kernel_rfl) ?_ _
     go_wp2_with fail
     go_meet
     case rel => exact ⟨b3, c3, rfl, by go_num, rfl, ho3, HB3.out⟩
   case rest =>
    obtain ⟨b3, c3, rfl, rfl, rfl, ho3, hb3⟩ := hcut
    have HB3 := Lib.hid (HBw4.out.trans (hb3.mono HBw4.out.size))
    have hF3 := HF4.out.kept (.of_below hb3)
    rw [← HM.out] at ho3
    have HH := Lib.hid (hds_flight hF3 ho3)
    obtain ⟨hs, hhs⟩ : ∃ hs, tl ++ [(⟨fna, fnn, fnc⟩ : Hd)] = hs := ⟨_, rfl⟩
    obtain ⟨tb, htb⟩ : ∃ tb, f.legs ++ [f.next] = tb := ⟨_, rfl⟩
    have hl64 : ∀ q, q < m + 1 → (tb[q]!).length ≤ 64 := fun q hq => by
     rw [← htb]
     by_cases hql : q < f.legs.length
     ·rw [getElem!_pos _ q (by simp; omega), List.getElem_append_left (by omega), ← getElem!_pos f.legs q hql]
      exact (HFok.out.legs q hql).n1
     ·have e2 : (f.legs ++ [f.next])[q]! = f.next := by
       obtain rfl : q = f.legs.length := by rw [HM.out] at hql ⊢; omega
       rw [getElem!_pos _ _ (by simp), List.getElem_append_right (by omega)]; simp
      rw [e2]
      rcases HFok.out.next with e | e
      ·rw [e]; exact Nat.zero_le _
      ·exact e.n1
    have HL64 := Lib.hid hl64
    have HTb := Lib.hid (show endF nj f = endL nj tb by unfold endF; rw [htb])
    have hl3 : f.legs.length + 1 = m + 1 := by rw [HM.out]
    rw [hhs, htb, hl3] at HH
    have HLn := Lib.hid HH.out.ln
    clear hF3 ho3 hl3 hhs htb hl64
    have hz3 := HB3.out.size
    go_wp2_with fail
    go_loopw [22, 3] (fun s n wr => ∃ q : Nat, q ≤ m + 1 ∧ s = .int .i64 (q : Int) ∧ n = .int .i64 (endL nj (tb.take q)) ∧ Hid (Below wc.heap.size wc wr)) (fun s _ _ => m + 1 - (intOf s).toNat)
    case atStart => exact ⟨0, by omega, rfl, rfl, Lib.hid (Below.refl _ _)⟩
    case round =>
     obtain ⟨q, hq, rfl, rfl, HBq⟩ := hrel
     obtain ⟨wq, hwq⟩ : ∃ wq : World, wq = wr := ⟨_, rfl⟩
     subst hwq
     by_cases hqt : q < m + 1
     ·have m0 : (0 : Int) ≤ (q : Int) := by omega
      have m1 : (q : Int) < (m : Int) + 1 := by omega
      have hqw : IntKind.i64.wrap ((q : Int) + 1) = (q : Int) + 1 := IntWalk.i64_in _ (by omega)
      have hqb : q < tb.length := by rw [HLn.out]; exact hqt
      have HTs : Hid (endL nj (tb.take (q + 1)) = if 0 < (tb[q]!).length then max (endL nj (tb.take q)) (lstT tb[q]!) else endL nj (tb.take q)) := Lib.hid (by rw [take_snocS tb q hqb, endL_snoc])
      have hHq := HH.out.below HBq.out
      have d0 := hHq.row q hqt
      have hT := hHq.tu q hqt
      have h64 := HL64.out q hqt
      obtain ⟨nq, hnq⟩ : ∃ n, endL nj (tb.take q) = n := ⟨_, rfl⟩
      obtain ⟨nr, hnr⟩ : ∃ n, endL nj (tb.take (q + 1)) = n := ⟨_, rfl⟩
      have HNr := Lib.hid hnr
      rw [hnq, hnr] at HTs
      rw [hnq]
      obtain ⟨⟨tA, tn, tc⟩, ht⟩ : ∃ t, hs[q]! = t := ⟨_, rfl⟩
      rw [ht] at d0 hT
      dsimp only at d0 hT
      obtain ⟨u, hu⟩ : ∃ u, tb[q]! = u := ⟨_, rfl⟩
      rw [hu] at hT HTs h64
      have htn : u.length = tn := hT.1
      rw [htn] at HTs h64
      by_cases hz : 0 < tn
      ·obtain ⟨bb, off, rfl, hbb, hcl⟩ := hT.lst hz
       have e0 : (0 : Int) < (tn : Int) := by omega
       have e1 : IntKind.i64.wrap ((tn : Int) - 1) = ((tn - 1 : Nat) : Int) := by rw [IntWalk.i64_in _ (by omega)]; omega
       have e2 : (0 : Int) ≤ ((tn - 1 : Nat) : Int) := by omega
       have e3 : ((tn - 1 : Nat) : Int) < (tn : Int) := by omega
       have hmx : max nq (lstT u) = nr := by have := HTs.out; rw [if_pos hz] at this; exact this.symm
       clear hHq hT htn ht hu hnq hnr
       go_wp2_with fail
       go_roundw
       case rel => exact ⟨q + 1, by omega, by go_num, by rw [HNr.out]; try rw [hmx], HBq⟩
       case measure => simp [intOf]; omega
      ·obtain rfl : tn = 0 := by omega
       have hmx : nq = nr := by have := HTs.out; rw [if_neg hz] at this; exact this.symm
       clear hHq hT htn ht hu hnq hnr
       go_wp2_with fail
       go_roundw
       case rel => exact ⟨q + 1, by omega, by go_num, by rw [HNr.out, hmx], HBq⟩
       case measure => simp [intOf]; omega
     ·obtain rfl : m + 1 = q := by omega
      have htk : tb.take (m + 1) = tb := by rw [← HLn.out]; exact List.take_length
      rw [htk, ← HTb.out, ← HTk.out]
      go_wp2_with fail
      go_roundw
      case rel => exact ⟨j + 1, by omega, by go_num, rfl, Lib.hid (HB3.out.trans (HBq.out.mono hz3))⟩
      case measure => simp [intOf]; omega
  ·obtain rfl : vn = j := by omega
   go_wp2_with fail
   go_ret
   refine ⟨?_, HB.out⟩
   rw [HN.out, List.take_length]
   rfl
end Go.Proofs.YtaebebpldkciiaaGreatDoor
