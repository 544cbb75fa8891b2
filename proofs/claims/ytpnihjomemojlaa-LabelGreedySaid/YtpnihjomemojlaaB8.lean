/- Package label: the fixed example; the walk of LabelShifted. -/
import Derived.Test.YtpnihjomemojlaaB7
import Derived.Test.YtpnihjomemojlaaCloneIt
import Derived.Deep.CutRange
namespace Go.Proofs.Ytpnihjomemojlaa
open Go.RowKit

set_option maxRecDepth 100000 in
set_option maxHeartbeats 2000000 in
theorem fact_any (w : World) : Calls Try.prog 11 #[] w fun e w' => e = .returned (.bool true) ∧ Below w.heap.size w w' := by
  obtain ⟨W0, hW0⟩ : ∃ W0, w.alloc (.cells #[.int .i64 0, .int .i64 0, .int .i64 2, .int .i64 2, .int .i64 9, .int .i64 9, .int .i64 2, .int .i64 2] 31) = W0 := ⟨_, rfl⟩
  have ho : W0.ownsRow w.heap.size 31 4 (.slice (some ⟨w.heap.size, 0, none⟩) 2 2) 2 (rowsV itV fixL) := by
    rw [← hW0]
    exact ⟨rfl, .inr ⟨w.heap.size, 2, _, rfl, Nat.le_refl _, heap_alloc_new w _, Nat.le_refl _, by decide, rfl, rfl⟩⟩
  have hb0 : Below w.heap.size w W0 := by rw [← hW0]; exact (Below.refl _ w).alloc (Nat.le_refl _) _
  have hp := Place_any (some ⟨w.heap.size, 0, none⟩) 2 2 fixL W0 (Sl_rows (k := 4) (fun _ => rfl) ho rfl (by decide)) rfl (by omega)
  unfold PlaceP at hp
  rw [fix_place] at hp
  have HP := Lib.hid hp
  have HB := Lib.hid hb0
  clear hp ho hb0
  go_enter Try.func11, Try.ntmps11
  go_wp2_with (first
    | (go_at_call 10; go_loud (refine HP.out.mono ?_; rintro e w1 ⟨A, c, rfl, hs1, hb1⟩; have HS := Lib.hid hs1; have HB1 := Lib.hid (HB.out.trans (hb1.mono HB.out.size)); have HE := Lib.hid (fun (g : Nat → Int) (hg : ∀ i, i < 2 → g i = 0) (hB : Sl (w1.alloc (.cells #[.int .i64 0, .int .i64 0] 3)) (w1.alloc (.cells #[.int .i64 0, .int .i64 0] 3)).heap.size 1 (some ⟨w1.heap.size, 0, none⟩) 2 (fun i => [.int .i64 (g i)])) => Equal_any A (some ⟨w1.heap.size, 0, none⟩) 2 2 c 2 _ (fun i => ([0, 0] : List Int)[i]!) g (w1.alloc (.cells #[.int .i64 0, .int .i64 0] 3)) ((HS.out.below ((Below.refl _ w1).alloc (Nat.le_refl _) _)).more (by simp)) hB (by omega) (by omega)); clear hs1 hb1))
    | (go_at_call 12; go_loud (refine (HE.out (fun _ => 0) (fun _ _ => rfl) (Sl_rows (k := 1) (enc := intV1) (l := [0, 0]) (base := w1.heap.size) (fun _ => rfl) ⟨rfl, .inr ⟨w1.heap.size, 2, _, rfl, Nat.le_refl _, heap_alloc_new w1 _, Nat.le_refl _, by decide, rfl, rfl⟩⟩ rfl (by decide) |>.congr fun i hi => by
        rcases (show i = 0 ∨ i = 1 by omega) with rfl | rfl <;> rfl)).mono ?_; rintro e w2 ⟨rfl, hb2⟩)))
  go_ret
  exact ⟨by rfl, (HB1.out.alloc HB1.out.size _).trans (hb2.mono (by simp; have := HB1.out.size; omega))⟩

def cutIt (i : It) : It := ⟨cutI i.x (-800) 800, cutI i.y (-800) 800, i.w, i.h⟩
def upL (f : It → It) (l : List It) (j : Nat) : List It := (l.take j).map f ++ l.drop j
theorem upL_len (f : It → It) (l : List It) (j : Nat) : (upL f l j).length = l.length := by
  unfold upL
  rw [List.length_append, List.length_map, ← List.length_append, List.take_append_drop]
theorem upL_get (f : It → It) {l : List It} {j : Nat} (hj : j < l.length) : (upL f l j)[j]! = l[j]! := by
  rw [getElem!_pos _ j (by rw [upL_len]; exact hj), getElem!_pos l j hj]
  unfold upL
  rw [List.getElem_append_right (by rw [List.length_map, List.length_take]; omega), List.getElem_drop]
  congr 1
  rw [List.length_map, List.length_take]; omega
theorem upL_set (f : It → It) {l : List It} {j : Nat} (hj : j < l.length) : (upL f l j).set j (f l[j]!) = upL f l (j + 1) := by
  unfold upL
  rw [List.set_append_right _ _ (by rw [List.length_map, List.length_take]; omega), List.length_map, List.length_take, Nat.min_eq_left (by omega), Nat.sub_self, List.take_succ_eq_append_getElem hj, List.map_append, List.map_singleton, List.append_assoc, List.drop_eq_getElem_cons hj, List.set_cons_zero, getElem!_pos l j hj]
  rfl
theorem upL_all (f : It → It) (l : List It) : upL f l l.length = l.map f := by simp [upL]
theorem own_xy {base g n c : Nat} {l : List It} {w : World} (h : w.ownsRow base 31 4 (.slice (some ⟨g, 0, none⟩) n c) n (rowsV itV l)) (hl : l.length = n) (j : Nat) (hj : j < n) (x y : Int) :
    ((w.setCell ⟨g, j * 4, none⟩ (.int .i64 x)).setCell ⟨g, j * 4 + 1, none⟩ (.int .i64 y)).ownsRow base 31 4 (.slice (some ⟨g, 0, none⟩) n c) n (rowsV itV (l.set j ⟨x, y, (l[j]!).w, (l[j]!).h⟩)) := by
  have hjl : j < l.length := by omega
  have h1 := (h.stored (j * 4 + 0) (.int .i64 x)).1
  rw [rowsV_cell (k := 4) (fun _ => rfl) l j hjl 0 (by decide) _ (⟨x, (l[j]!).y, (l[j]!).w, (l[j]!).h⟩ : It) rfl] at h1
  have h2 := (h1.stored (j * 4 + 1) (.int .i64 y)).1
  rw [rowsV_cell (k := 4) (fun _ => rfl) _ j (by simpa using hjl) 1 (by decide) _ (⟨x, y, (l[j]!).w, (l[j]!).h⟩ : It) (by rw [getElem!_pos _ j (by simpa using hjl), List.getElem_set_self]; rfl), List.set_set] at h2
  exact h2
theorem own_cell {base g n c : Nat} {l : List It} {w : World} (h : w.ownsRow base 31 4 (.slice (some ⟨g, 0, none⟩) n c) n (rowsV itV l)) (hl : l.length = n) (j : Nat) (hj : j < n) (i : Nat) (v : Value) (hv : (itV l[j]!)[i]? = some v) : w.cell? ⟨g, j * 4 + i, none⟩ = some v := by
  obtain ⟨b, o, e, _, hr⟩ := Sl_rows (k := 4) (fun _ => rfl) h hl (by decide) (by omega)
  have h9 := Option.some.inj e
  have e1 : g = b := congrArg Addr.block h9
  have e2 : 0 = o := congrArg Addr.off h9
  subst e1 e2
  have := hr j hj i v hv
  rw [show 0 + j * 4 + i = j * 4 + i by omega] at this
  exact this

theorem srch_len {l : List It} : ∀ (f : Nat) (s : List Int) (u : List Bx) (o : List Int), srch l f s u = some o → o.length = s.length + f
  | 0, s, u, o, h => by
    have : s = o := Option.some.inj h
    rw [this]; rfl
  | f + 1, s, u, o, h => by
    have hk : ∀ r, srchK (srch l f) l s u r = some o → o.length = s.length + (f + 1) := fun r => by
      induction r with
      | zero => intro h; cases h
      | succ r ih =>
        intro h
        unfold srchK at h
        split at h
        · split at h
          · rename_i o' ho
            have e := Option.some.inj h
            subst e
            have := srch_len f _ _ _ ho
            rw [List.length_append, List.length_singleton] at this
            omega
          · exact ih h
        · exact ih h
    exact hk 8 h
theorem placeX_len (l : List It) : (placeX l).1.length ≤ 6 := by
  unfold placeX
  split
  · exact Nat.zero_le _
  · split
    · exact Nat.zero_le _
    · split
      · exact Nat.zero_le _
      · split
        · exact Nat.zero_le _
        · rename_i h6 _ _ s hs
          have := srch_len _ _ _ _ hs
          simp only [List.length_nil, Nat.zero_add] at this
          show s.length ≤ 6
          omega
theorem own_same {base n size g c : Nat} {e : TypeId} {w w' : World} {xs : List Value} (h : w.ownsRow base e size (.slice (some ⟨g, 0, none⟩) n c) n xs) (hk : w'.heap[g]? = w.heap[g]?) : w'.ownsRow base e size (.slice (some ⟨g, 0, none⟩) n c) n xs := by
  refine ⟨h.1, ?_⟩
  rcases h.2 with h0 | ⟨g', cap, cur, hv, hb, hg, hr⟩
  · exact .inl h0
  · refine .inr ⟨g', cap, cur, hv, hb, ?_, hr⟩
    have e1 : g = g' := congrArg Addr.block (Option.some.inj (Value.slice.inj hv).1)
    rw [← e1] at hg ⊢
    rw [hk]; exact hg

set_option maxRecDepth 100000 in
set_option maxHeartbeats 8000000 in
theorem Shifted_some (a : Addr) (n c : Nat) (l : List It) (x0 y0 : Int) (w : World) (hA : Sl w w.heap.size 4 (some a) n (fun i => itV l[i]!)) (hl : l.length = n) (hnc : n ≤ c) (_ : c ≤ maxLen) :
    Calls Try.prog 4 #[.slice (some a) n c, .int .i64 x0, .int .i64 y0] w fun e w' => e = .returned (.bool true) ∧ Below w.heap.size w w' := by

  obtain ⟨q, hq⟩ : ∃ q, min n 4 = q := ⟨_, rfl⟩
  have hqn : q ≤ n := by omega
  have hq4 : q ≤ 4 := by omega
  have hqc : q ≤ c := by omega
  have hmin : min (n : Int) 4 = (q : Int) := by omega
  have hq0 : (0 : Int) ≤ (q : Int) := by omega
  have hqcI : (q : Int) ≤ (c : Int) := by omega
  obtain ⟨m, hm⟩ : ∃ m, l.take q = m := ⟨_, rfl⟩
  have hml : m.length = q := by rw [← hm, List.length_take]; omega
  have hmi : ∀ i, i < q → itV l[i]! = itV m[i]! := fun i hi => by
    rw [getElem!_pos l i (by omega), getElem!_pos m i (by omega)]
    subst hm
    rw [List.getElem_take]
  have hS0 : Sl w w.heap.size 4 (some a) q (fun i => itV m[i]!) := (hA.less hqn).congr hmi
  have hone : ∀ i, i < q → ∀ u ∈ itV m[i]!, u.oneCell' = true := fun i _ u hu => by
    rcases List.mem_cons.1 hu with rfl | hu
    · rfl
    rcases List.mem_cons.1 hu with rfl | hu
    · rfl
    rcases List.mem_cons.1 hu with rfl | hu
    · rfl
    rcases List.mem_cons.1 hu with rfl | hu
    · rfl
    cases hu
  have hcl := fun (B : Option Addr) (d : Nat) (W : World) (hB : Sl W W.heap.size 4 B q (fun i => itV m[i]!)) (hn : B = none → q = 0) => CloneIt_any B q d (fun i => itV m[i]!) W hB (fun _ _ => rfl) hone hn (by unfold maxLen; omega) (by omega)
  rw [← hml, ← rowsV_flat (k := 4) (fun _ => rfl) m, hml] at hcl
  have HCl := Lib.hid hcl
  have HS0 := Lib.hid hS0
  have HN : Hid ((some a : Option Addr) = none → q = 0) := Lib.hid (fun h => by cases h)
  have HMl := Lib.hid hml
  have HX := Lib.hid (fun W => Cut_any x0 (-100) 100 W (by omega) (by omega) (by omega))
  have HY := Lib.hid (fun W => Cut_any y0 (-100) 100 W (by omega) (by omega) (by omega))
  have hxb := cutI_bd (n := x0) (show (-100 : Int) ≤ 100 by omega)
  have hyb := cutI_bd (n := y0) (show (-100 : Int) ≤ 100 by omega)
  generalize cutI x0 (-100) 100 = x at *
  generalize cutI y0 (-100) 100 = y at *
  have tok1 : True := trivial
  have tok2 : True := trivial
  clear hA hl hm hmi hS0 hone hcl hml
  go_enter Try.func4, Try.ntmps4
  go_wp2_with (first
    | (go_at_call 9; have _t := tok1; go_loud (refine (HCl.out _ _ _ HS0.out HN.out).mono ?_; rintro e w1 ⟨v1, rfl, ho1, hb1⟩; obtain ⟨A1, c1, rfl⟩ := own_shape ho1; have O1 := Lib.hid ho1; have B1 := Lib.hid hb1; clear ho1 hb1 tok1))
    | (go_at_call 9; have _t := tok2; go_loud (refine (HCl.out _ _ _ (Sl_rows (k := 4) (fun _ => rfl) O1.out HMl.out (by decide)) (by intro h; first | exact (own_nil O1.out h).1 | trivial)).mono ?_; rintro e w2 ⟨v2, rfl, ho2, hb2⟩; obtain ⟨A2, c2, rfl⟩ := own_shape ho2; have O2 := Lib.hid ho2; have B2 := Lib.hid hb2; clear ho2 hb2 tok2))
    | (go_at_call 6; go_loud (with_reducible refine (HX.out _).mono ?_; rintro e w' ⟨rfl, rfl⟩))
    | (go_at_call 6; go_loud (with_reducible refine (HY.out _).mono ?_; rintro e w' ⟨rfl, rfl⟩)))
  have O12 := Lib.hid (own_below O1.out B2.out (Nat.le_refl _))
  have HG1 : Hid (∀ g, A1 = some ⟨g, 0, none⟩ → g < w1.heap.size) := Lib.hid fun g hg => (O1.out.lt g (by rw [hg]; rfl)).2
  have U1 : Hid (w2.ownsRow w.heap.size 31 4 (.slice A1 q c1) q (rowsV itV (upL cutIt m 0))) := Lib.hid (by simpa [upL] using O12.out)
  have U2 : Hid (w2.ownsRow w1.heap.size 31 4 (.slice A2 q c2) q (rowsV itV (upL (fun i => mvI x y (cutIt i)) m 0))) := Lib.hid (by simpa [upL] using O2.out)
  have B12 := Lib.hid (B1.out.trans (B2.out.mono B1.out.size))
  have hz1 := B1.out.size
  clear O1 O2 O12 HCl HS0 HN
  go_loopw [8, 27] (fun _ i wr => ∃ j : Nat, j ≤ q ∧ i = .int .i64 (j : Int) ∧ Hid (wr.ownsRow w.heap.size 31 4 (.slice A1 q c1) q (rowsV itV (upL cutIt m j))) ∧ Hid (wr.ownsRow w1.heap.size 31 4 (.slice A2 q c2) q (rowsV itV (upL (fun i => mvI x y (cutIt i)) m j))) ∧ Below w.heap.size w wr) (fun _ i _ => q - (intOf i).toNat)
  case atStart => exact ⟨0, by omega, rfl, U1, U2, B12.out⟩
  case round =>
    obtain ⟨j, hj, rfl, V1, V2, hbr⟩ := hrel
    by_cases hlt : j < q
    · have hj0 : (0 : Int) ≤ (j : Int) := by omega
      have hjq : (j : Int) < (q : Int) := by omega
      obtain ⟨g1, cap1, hv1, hbg1, hlg1⟩ := V1.out.form (by omega)
      obtain rfl : A1 = some ⟨g1, 0, none⟩ := (Value.slice.inj hv1).1
      obtain ⟨g2, cap2, hv2, hbg2, hlg2⟩ := V2.out.form (by omega)
      obtain rfl : A2 = some ⟨g2, 0, none⟩ := (Value.slice.inj hv2).1
      have hg12 := HG1.out g1 rfl
      have hcap1 := own_cap V1.out
      have hcap2 := own_cap V2.out
      unfold maxLen at hcap1 hcap2
      have hL1 := Lib.hid ((upL_len cutIt m j).trans HMl.out)
      have hL2 := Lib.hid ((upL_len (fun i => mvI x y (cutIt i)) m j).trans HMl.out)
      have hE1 := upL_get cutIt (l := m) (j := j) (by rw [HMl.out]; exact hlt)
      have hE2 := upL_get (fun i => mvI x y (cutIt i)) (l := m) (j := j) (by rw [HMl.out]; exact hlt)
      have hT1 := upL_set cutIt (l := m) (j := j) (by rw [HMl.out]; exact hlt)
      have hT2 := upL_set (fun i => mvI x y (cutIt i)) (l := m) (j := j) (by rw [HMl.out]; exact hlt)
      obtain ⟨it, hit⟩ : ∃ it, m[j]! = it := ⟨_, rfl⟩
      rw [hit] at hE1 hE2 hT1 hT2
      have c0 : wr.cell? ⟨g1, j * 4, none⟩ = some (.int .i64 it.x) := own_cell V1.out hL1.out j hlt 0 _ (by rw [hE1]; rfl)
      have c1' : wr.cell? ⟨g1, j * 4 + 1, none⟩ = some (.int .i64 it.y) := own_cell V1.out hL1.out j hlt 1 _ (by rw [hE1]; rfl)
      have d0 : wr.cell? ⟨g2, j * 4, none⟩ = some (.int .i64 it.x) := own_cell V2.out hL2.out j hlt 0 _ (by rw [hE2]; rfl)
      have d1 : wr.cell? ⟨g2, j * 4 + 1, none⟩ = some (.int .i64 it.y) := own_cell V2.out hL2.out j hlt 1 _ (by rw [hE2]; rfl)
      have f0 := (own_some V1.out (j * 4) (by omega)).2
      have f1 := (own_some V1.out (j * 4 + 1) (by omega)).2
      have k0 := (own_some V2.out (j * 4) (by omega)).2
      have k1 := (own_some V2.out (j * 4 + 1) (by omega)).2
      have HC1 := Lib.hid (fun W => Cut_any it.x (-800) 800 W (by omega) (by omega) (by omega))
      have HC2 := Lib.hid (fun W => Cut_any it.y (-800) 800 W (by omega) (by omega) (by omega))
      have bx := cutI_bd (n := it.x) (show (-800 : Int) ≤ 800 by omega)
      have by' := cutI_bd (n := it.y) (show (-800 : Int) ≤ 800 by omega)
      have HE1 := Lib.hid hE1
      have HE2 := Lib.hid hE2
      have HT1 := Lib.hid hT1
      have HT2 := Lib.hid hT2
      have HCI : Hid (cutIt it = ⟨cutI it.x (-800) 800, cutI it.y (-800) 800, it.w, it.h⟩) := Lib.hid rfl
      obtain ⟨ix, iy, iw, ih⟩ := it
      dsimp only at c0 c1' d0 d1 HC1 HC2 bx by' HCI
      generalize cutI ix (-800) 800 = cx at *
      generalize cutI iy (-800) 800 = cy at *
      have HBr := Lib.hid hbr
      clear hv1 hv2 hE1 hE2 hT1 hT2 hit hbr
      go_upto_region 7 with fail
      go_cut [8] from 28 to 72 (fun s8 wx => s8 = .int .i64 (j : Int) ∧ wx = ((wr.setCell ⟨g1, j * 4, none⟩ (.int .i64 cx)).setCell ⟨g1, j * 4 + 1, none⟩ (.int .i64 cy)).drew)
      case first =>
        go_region_with (first
          | (go_at_call 6; with_reducible refine (HC1.out _).mono ?_; rintro e w' ⟨rfl, rfl⟩)
          | (go_at_call 6; with_reducible refine (HC2.out _).mono ?_; rintro e w' ⟨rfl, rfl⟩))
        all_goals
          go_wp2_with fail
          go_meet
          exact ⟨rfl, rfl⟩
      case rest =>
        obtain ⟨rfl, hwc⟩ := hcut
        have ho1 := own_xy V1.out hL1.out j hlt cx cy
        rw [HE1.out] at ho1
        have hst : (upL cutIt m j).set j ⟨cx, cy, iw, ih⟩ = upL cutIt m (j + 1) := by rw [← HT1.out, HCI.out]
        rw [show (⟨cx, cy, (⟨ix, iy, iw, ih⟩ : It).w, (⟨ix, iy, iw, ih⟩ : It).h⟩ : It) = ⟨cx, cy, iw, ih⟩ from rfl, hst] at ho1
        have X1 := Lib.hid (show wc.ownsRow w.heap.size 31 4 (.slice (some ⟨g1, 0, none⟩) q c1) q (rowsV itV (upL cutIt m (j + 1))) by rw [hwc]; exact ho1)
        have hne : g2 ≠ g1 := by omega
        have hk2 : wc.heap[g2]? = wr.heap[g2]? := by
          rw [hwc]
          exact (heap_setCell_other _ _ _ _ hne).trans (heap_setCell_other _ _ _ _ hne)
        have BX := Lib.hid (show Below w.heap.size w wc by
          rw [hwc]
          exact ((HBr.out.setCell (p := ⟨g1, j * 4, none⟩) hbg1 _).setCell (p := ⟨g1, j * 4 + 1, none⟩) hbg1 _).drew)
        have X2 := Lib.hid (show wc.ownsRow w1.heap.size 31 4 (.slice (some ⟨g2, 0, none⟩) q c2) q (rowsV itV (upL (fun i => mvI x y (cutIt i)) m j)) from own_same V2.out hk2)
        have hL3 := Lib.hid ((upL_len cutIt m (j + 1)).trans HMl.out)
        have hE3 : (upL cutIt m (j + 1))[j]! = ⟨cx, cy, iw, ih⟩ := by
          rw [← hst, getElem!_pos _ j (by rw [List.length_set, hL1.out]; exact hlt), List.getElem_set_self]
        have a0 : wc.cell? ⟨g1, j * 4, none⟩ = some (.int .i64 cx) := own_cell X1.out hL3.out j hlt 0 _ (by rw [hE3]; rfl)
        have a1 : wc.cell? ⟨g1, j * 4 + 1, none⟩ = some (.int .i64 cy) := own_cell X1.out hL3.out j hlt 1 _ (by rw [hE3]; rfl)
        have d0' : wc.cell? ⟨g2, j * 4, none⟩ = some (.int .i64 ix) := own_cell X2.out hL2.out j hlt 0 _ (by rw [HE2.out]; rfl)
        have d1' : wc.cell? ⟨g2, j * 4 + 1, none⟩ = some (.int .i64 iy) := own_cell X2.out hL2.out j hlt 1 _ (by rw [HE2.out]; rfl)
        have k0' := (own_some X2.out (j * 4) (by omega)).2
        have k1' := (own_some X2.out (j * 4 + 1) (by omega)).2
        have hw1 : (IntKind.i64).wrap (cx + x) = cx + x := IntWalk.i64_in _ (by omega)
        have hw2 : (IntKind.i64).wrap (cy + y) = cy + y := IntWalk.i64_in _ (by omega)
        have ho2 := own_xy X2.out hL2.out j hlt (cx + x) (cy + y)
        rw [HE2.out] at ho2
        have hst2 : (upL (fun i => mvI x y (cutIt i)) m j).set j ⟨cx + x, cy + y, iw, ih⟩ = upL (fun i => mvI x y (cutIt i)) m (j + 1) := by rw [← HT2.out, HCI.out]; rfl
        rw [show (⟨cx + x, cy + y, (⟨ix, iy, iw, ih⟩ : It).w, (⟨ix, iy, iw, ih⟩ : It).h⟩ : It) = ⟨cx + x, cy + y, iw, ih⟩ from rfl, hst2] at ho2
        have Y2 := Lib.hid ho2
        have hk1 : ((wc.setCell ⟨g2, j * 4, none⟩ (.int .i64 (cx + x))).setCell ⟨g2, j * 4 + 1, none⟩ (.int .i64 (cy + y))).heap[g1]? = wc.heap[g1]? := (heap_setCell_other _ _ _ _ (Ne.symm hne)).trans (heap_setCell_other _ _ _ _ (Ne.symm hne))
        have Y1 := Lib.hid (own_same X1.out hk1)
        have hbg2' : w.heap.size ≤ g2 := by omega
        have BY := Lib.hid ((BX.out.setCell (p := ⟨g2, j * 4, none⟩) hbg2' (.int .i64 (cx + x))).setCell (p := ⟨g2, j * 4 + 1, none⟩) hbg2' (.int .i64 (cy + y)))
        clear ho1 ho2 hst hst2 hwc hk1 hk2 hE3 c0 c1' d0 d1 f0 f1 k0 k1
        go_wp2_with fail
        go_region_with fail
        all_goals
          go_wp2_with fail
          go_roundw
          case rel => exact ⟨j + 1, by omega, by go_num, Lib.hid (by exact Y1.out), Lib.hid (by exact Y2.out), by first | exact BY.out | exact BY.out.drew⟩
          case measure => simp [intOf]; omega
    · obtain rfl : j = q := by omega
      have hP1 := V1.out
      have hP2 := V2.out
      rw [← HMl.out, upL_all, HMl.out] at hP1 hP2
      have hmv : m.map (fun i => mvI x y (cutIt i)) = (m.map cutIt).map (mvI x y) := by rw [List.map_map]; rfl
      rw [hmv] at hP2
      have S1 := Lib.hid (Sl_rows (k := 4) (fun _ => rfl) hP1 (by rw [List.length_map]; exact HMl.out) (by decide))
      have S2 := Lib.hid (Sl_rows (k := 4) (fun _ => rfl) hP2 (by rw [List.length_map, List.length_map]; exact HMl.out) (by decide))
      have hbd : ∀ i ∈ m.map cutIt, (-800 ≤ i.x ∧ i.x ≤ 800) ∧ -800 ≤ i.y ∧ i.y ≤ 800 := fun i hi => by
        obtain ⟨i0, _, rfl⟩ := List.mem_map.1 hi
        exact ⟨cutI_bd (by omega), cutI_bd (by omega)⟩
      have hpl := place_mv hxb hyb hbd
      have HQ1 := Lib.hid (fun (W : World) (hW : Below wr.heap.size wr W) => Place_any A1 j c1 (m.map cutIt) W ((S1.out.below hW).more hW.size) (by rw [List.length_map]; exact HMl.out) (by omega))
      have HQ2 := Lib.hid (fun (W : World) (hW : Below wr.heap.size wr W) => Place_any A2 j c2 ((m.map cutIt).map (mvI x y)) W ((S2.out.below hW).more hW.size) (by rw [List.length_map, List.length_map]; exact HMl.out) (by omega))
      unfold PlaceP at HQ1 HQ2
      rw [hpl] at HQ2
      have hlr := placeX_len (m.map cutIt)
      generalize placeX (m.map cutIt) = R at *
      obtain ⟨R1, R2⟩ := R
      dsimp only at HQ1 HQ2 hlr
      have HLR := Lib.hid hlr
      clear hlr
      have HBr := Lib.hid hbr
      clear hP1 hP2 hmv hbd hpl hbr V1 V2
      go_wp2_with (first
        | (go_at_call 12; have _h := C8; go_loud (refine (Equal_any P1 P2 R1.length R1.length d1 d2 _ (fun i => R1[i]!) (fun i => R1[i]!) _ ((T1.out.below C48).more C48.size) ((T2.out.below hb8).more hb8.size) (by have := HLR.out; omega) (by have := HLR.out; omega)).mono ?_; rintro e w9 ⟨rfl, hb9⟩))
        | (go_at_call 11; have _h := C7; go_loud (refine (fact_any _).mono ?_; rintro e w8 ⟨rfl, hb8⟩; have C8 := C7.trans (hb8.mono C7.size); have C48 := C47.trans (hb8.mono C47.size)))
        | (go_at_call 10; have _h := C6; go_loud (refine (HQ2.out _ C6).mono ?_; rintro e w7 ⟨P2, d2, rfl, hs2, hb7⟩; have T2 := Lib.hid hs2; have C7 := C6.trans (hb7.mono C6.size); have C47 := hb7; clear hs2))
        | (go_at_call 10; go_loud (refine (HQ1.out _ (Below.refl _ _)).mono ?_; rintro e w6 ⟨P1, d1, rfl, hs1, C6⟩; have T1 := Lib.hid hs1; clear hs1)))
      go_ret
      exact ⟨ret_bool (eqB_true rfl (fun _ _ => rfl)), HBr.out.trans ((C8.trans (hb9.mono C8.size)).mono HBr.out.size)⟩

set_option maxRecDepth 100000 in
set_option maxHeartbeats 4000000 in
theorem Shifted_none (x0 y0 : Int) (w : World) :
    Calls Try.prog 4 #[.slice none 0 0, .int .i64 x0, .int .i64 y0] w fun e w' => e = .returned (.bool true) ∧ Below w.heap.size w w' := by
  have HCl := Lib.hid (fun (B : Option Addr) (d : Nat) (W : World) => CloneIt_any B 0 d (fun _ => []) W (fun h => absurd h (by omega)) (fun i h => absurd h (by omega)) (fun i h => absurd h (by omega)) (fun _ => rfl) (by decide) (by decide))
  have HX := Lib.hid (fun W => Cut_any x0 (-100) 100 W (by omega) (by omega) (by omega))
  have HY := Lib.hid (fun W => Cut_any y0 (-100) 100 W (by omega) (by omega) (by omega))
  generalize cutI x0 (-100) 100 = x at *
  generalize cutI y0 (-100) 100 = y at *
  have hpl := fun (B : Option Addr) (d : Nat) (W : World) => Place_any B 0 d [] W (fun h => absurd h (by omega)) rfl (by omega)
  unfold PlaceP at hpl
  rw [show placeX [] = ([], 0) from rfl] at hpl
  simp only [List.length_nil] at hpl
  have HPl := Lib.hid hpl
  have HEq := Lib.hid (fun (B D : Option Addr) (d e : Nat) (W : World) => Equal_any B D 0 0 d e W.heap.size (fun _ => 0) (fun _ => 0) W (fun h => absurd h (by omega)) (fun h => absurd h (by omega)) (by omega) (by omega))
  have tok1 : True := trivial
  have tok2 : True := trivial
  clear hpl
  go_enter Try.func4, Try.ntmps4
  go_wp2_with (first
    | (go_at_call 9; have _t := tok1; go_loud (refine (HCl.out _ _ _).mono ?_; rintro e w1 ⟨v1, rfl, ho1, hb1⟩; obtain ⟨A1, c1, rfl⟩ := own_shape ho1; have B1 := Lib.hid hb1; clear ho1 hb1 tok1))
    | (go_at_call 9; have _t := tok2; go_loud (refine (HCl.out _ _ _).mono ?_; rintro e w2 ⟨v2, rfl, ho2, hb2⟩; obtain ⟨A2, c2, rfl⟩ := own_shape ho2; have B2 := Lib.hid hb2; clear ho2 hb2 tok2))
    | (go_at_call 6; with_reducible refine (HX.out _).mono ?_; rintro e w' ⟨rfl, rfl⟩)
    | (go_at_call 6; with_reducible refine (HY.out _).mono ?_; rintro e w' ⟨rfl, rfl⟩))
  have B12 := Lib.hid (B1.out.trans (B2.out.mono B1.out.size))
  go_loopw [8, 27] (fun _ i wr => i = .int .i64 0 ∧ Below w.heap.size w wr) (fun _ _ _ => 1)
  case atStart => exact ⟨rfl, B12.out⟩
  case round =>
    obtain ⟨rfl, hbr⟩ := hrel
    have HBr := Lib.hid hbr
    clear hbr
    go_wp2_with (first
      | (go_at_call 12; have _h := C8; go_loud (refine (HEq.out P1 P2 d1 d2 _).mono ?_; rintro e w9 ⟨rfl, hb9⟩))
      | (go_at_call 11; have _h := C7; go_loud (refine (fact_any _).mono ?_; rintro e w8 ⟨rfl, hb8⟩; have C8 := C7.trans (hb8.mono C7.size)))
      | (go_at_call 10; have _h := C6; go_loud (refine (HPl.out _ _ _).mono ?_; rintro e w7 ⟨P2, d2, rfl, _, hb7⟩; have C7 := C6.trans (hb7.mono C6.size)))
      | (go_at_call 10; go_loud (refine (HPl.out _ _ _).mono ?_; rintro e w6 ⟨P1, d1, rfl, _, hb6⟩; have C6 := HBr.out.trans (hb6.mono HBr.out.size))))
    go_ret
    exact ⟨ret_bool (eqB_true rfl (fun _ _ => rfl)), C8.trans (hb9.mono C8.size)⟩

theorem Shifted_walk (A : Option Addr) (n c : Nat) (l : List It) (x0 y0 : Int) (w : World) (hA : Sl w w.heap.size 4 A n (fun i => itV l[i]!)) (hl : l.length = n) (hnc : n ≤ c) (hc : c ≤ maxLen) (hnil : A = none → n = 0 ∧ c = 0) :
    Calls Try.prog 4 #[.slice A n c, .int .i64 x0, .int .i64 y0] w fun e w' => e = .returned (.bool true) ∧ Below w.heap.size w w' := by
  cases A with
  | none =>
    obtain ⟨rfl, rfl⟩ := hnil rfl
    exact Shifted_none x0 y0 w
  | some a => exact Shifted_some a n c l x0 y0 w hA hl hnc hc
end Go.Proofs.Ytpnihjomemojlaa
