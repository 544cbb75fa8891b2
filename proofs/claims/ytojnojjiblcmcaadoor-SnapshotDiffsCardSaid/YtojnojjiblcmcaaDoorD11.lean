/- Package snapshot: the walk of SnapshotDiffs where both states are sound. -/
import Derived.Test.YtojnojjiblcmcaaDoorD7
import Derived.Test.YtojnojjiblcmcaaDoorCloneCh
namespace Go.Proofs.YtojnojjiblcmcaaDoor
open Go.RowKit

theorem own_ch {base g n cap : Nat} {l : List Ch} {w : World} (h : w.ownsRow base 49 5 (.slice (some ⟨g, 0, none⟩) n cap) n (rowsV chV l)) (hl : l.length = n) (r : Nat) (hr : r < n) (x : Ch) :
    (((((w.setCell ⟨g, r * 5, none⟩ (.string x.key)).setCell ⟨g, r * 5 + 1, none⟩ (.bool x.had)).setCell ⟨g, r * 5 + 2, none⟩ (.bool x.has)).setCell ⟨g, r * 5 + 3, none⟩ (.string x.old)).setCell ⟨g, r * 5 + 4, none⟩ (.string x.new)).ownsRow base 49 5 (.slice (some ⟨g, 0, none⟩) n cap) n (rowsV chV (l.set r x)) := by
  have hrl : r < l.length := by omega
  have h1 := (h.stored (r * 5 + 0) (.string x.key)).1
  rw [rowsV_cell (k := 5) (fun _ => rfl) l r hrl 0 (by decide) _ (⟨x.key, (l[r]!).had, (l[r]!).has, (l[r]!).old, (l[r]!).new⟩ : Ch) rfl] at h1
  have h2 := (h1.stored (r * 5 + 1) (.bool x.had)).1
  rw [rowsV_cell (k := 5) (fun _ => rfl) _ r (by simpa using hrl) 1 (by decide) _ (⟨x.key, x.had, (l[r]!).has, (l[r]!).old, (l[r]!).new⟩ : Ch) (by rw [getElem!_pos _ r (by simpa using hrl), List.getElem_set_self]; rfl), List.set_set] at h2
  have h3 := (h2.stored (r * 5 + 2) (.bool x.has)).1
  rw [rowsV_cell (k := 5) (fun _ => rfl) _ r (by simpa using hrl) 2 (by decide) _ (⟨x.key, x.had, x.has, (l[r]!).old, (l[r]!).new⟩ : Ch) (by rw [getElem!_pos _ r (by simpa using hrl), List.getElem_set_self]; rfl), List.set_set] at h3
  have h4 := (h3.stored (r * 5 + 3) (.string x.old)).1
  rw [rowsV_cell (k := 5) (fun _ => rfl) _ r (by simpa using hrl) 3 (by decide) _ (⟨x.key, x.had, x.has, x.old, (l[r]!).new⟩ : Ch) (by rw [getElem!_pos _ r (by simpa using hrl), List.getElem_set_self]; rfl), List.set_set] at h4
  have h5 := (h4.stored (r * 5 + 4) (.string x.new)).1
  rw [rowsV_cell (k := 5) (fun _ => rfl) _ r (by simpa using hrl) 4 (by decide) _ x (by rw [getElem!_pos _ r (by simpa using hrl), List.getElem_set_self]; rfl), List.set_set] at h5
  exact h5

/-- The changes, the last j turned round. -/
def turnD (D : List Ch) (j : Nat) : List Ch := D.take (D.length - j) ++ (D.take j).reverse.map swapC
theorem turnD_zero (D : List Ch) : turnD D 0 = D := by simp [turnD]
theorem turnD_all (D : List Ch) : turnD D D.length = D.reverse.map swapC := by simp [turnD]
theorem turnD_len (D : List Ch) {j : Nat} (hj : j ≤ D.length) : (turnD D j).length = D.length := by
  unfold turnD
  rw [List.length_append, List.length_take, List.length_map, List.length_reverse, List.length_take]
  omega
theorem turnD_next (D : List Ch) {j r : Nat} (hj : j < D.length) (hr : r + j + 1 = D.length) : (turnD D j).set r (swapC D[j]!) = turnD D (j + 1) := by
  have e1 : D.length - j = r + 1 := by omega
  have e2 : D.length - (j + 1) = r := by omega
  unfold turnD
  rw [e1, e2, List.take_succ_eq_append_getElem (show r < D.length by omega), List.take_succ_eq_append_getElem hj, List.reverse_append, List.reverse_singleton, List.map_append, List.map_singleton, List.append_assoc, List.set_append_right _ _ (by rw [List.length_take]; omega)]
  congr 1
  rw [List.length_take, Nat.min_eq_left (by omega), Nat.sub_self, getElem!_pos D j hj]
  rfl

theorem KeysOf.turn {ks : List ByteArray} {a b : List Rw} (h : KeysOf ks a b) : KeysOf ks.reverse b a :=
  ⟨(List.reverse_perm ks).nodup_iff.2 h.1, fun t ht => List.mem_reverse.2 (h.2 t (ht.symm))⟩
theorem apply_turned {a b : List Rw} (ha : Fine a) (hb : Fine b) : applyC b ((diffL (keysD a b) a b).reverse.map swapC) = (a, 0) := by
  rw [diff_turned]
  exact apply_diff (keysD_ok ha hb).turn hb ha
theorem diffL_sorted (ks : List ByteArray) (a b : List Rw) (h : ks.Pairwise (fun x y => lsS x y = true)) : (diffL ks a b).Pairwise (fun x y => lsS x.key y.key = true) := by
  unfold diffL
  refine List.Pairwise.filter _ ?_
  rw [List.pairwise_map]
  exact h.imp fun h => h
theorem diffR_up {a b : List Rw} (ha : Fine a) (hb : Fine b) (j : Nat) (h0 : 0 < j) (hj : j < (diffR a b).length) : lsS ((diffR a b)[j - 1]!).key ((diffR a b)[j]!).key = true := by
  rw [diffR_good ha hb] at hj ⊢
  rw [getElem!_pos _ (j - 1) (by omega), getElem!_pos _ j hj]
  exact List.pairwise_iff_getElem.1 (diffL_sorted _ a b (keysD_sorted a b)) (j - 1) j (by omega) hj (by omega)
end Go.Proofs.YtojnojjiblcmcaaDoor

namespace Go.Proofs.YtojnojjiblcmcaaDoor
open Go.RowKit

theorem chV_one (D : List Ch) (i : Nat) : ∀ u ∈ chV D[i]!, u.oneCell' = true := fun u hu => by
  rcases List.mem_cons.1 hu with rfl | hu
  · rfl
  rcases List.mem_cons.1 hu with rfl | hu
  · rfl
  rcases List.mem_cons.1 hu with rfl | hu
  · rfl
  rcases List.mem_cons.1 hu with rfl | hu
  · rfl
  rcases List.mem_cons.1 hu with rfl | hu
  · rfl
  cases hu

set_option maxRecDepth 100000 in
set_option maxHeartbeats 4000000 in
theorem Diffs_good (A B : Option Addr) (n p c d : Nat) (a b : List Rw) (w : World) (ha : StAt a A n w) (hb : StAt b B p w) (hv : EnvS w) (fa : Fine a) (fb : Fine b) :
    Calls Tryd.prog 7 #[.slice A n c, .slice B p d] w fun v w' => v = .returned (.bool true) ∧ Below w.heap.size w w' := by
  have hD := fun (W : World) (hW : Below w.heap.size w W) => Diff_at A B n p c d a b W (ha.below hW) (hb.below hW)
  rw [diffC_zero.2 ⟨fa, fb⟩] at hD
  have l1 := diffR_len (a := a) (b := b)
  have p1 : applyC a (diffR a b) = (b, 0) := by
    rw [diffR_good fa fb]
    exact apply_diff (keysD_ok fa fb) fa fb
  have p2 : applyC b ((diffR a b).reverse.map swapC) = (a, 0) := by
    rw [diffR_good fa fb]
    exact apply_turned fa fb
  have hn : diffR a b = [] ↔ a = b := by
    rw [diffR_good fa fb]
    exact diff_nil (keysD_ok fa fb) fa fb
  have hup := fun j => diffR_up fa fb j
  generalize diffR a b = D at *
  obtain ⟨m, hm⟩ : ∃ m, D.length = m := ⟨_, rfl⟩
  rw [hm] at hD l1 hup
  have hSm : ∀ W, Below w.heap.size w W → Calls Tryd.prog 11 #[.slice A n c, .slice B p d] W fun e w' => e = .returned (.bool ((m : Int) == 0)) ∧ Below W.heap.size W w' := fun W hW => by
    refine (Same_at A B n p c d a b W (ha.below hW) (hb.below hW)).mono ?_
    rintro e w' ⟨⟨r, rfl, hr⟩, hb'⟩
    refine ⟨?_, hb'⟩
    have : r = ((m : Int) == 0) := by
      rw [Bool.eq_iff_iff, hr, ← hn, beq_iff_eq, ← hm]
      constructor
      · intro h; rw [h]; rfl
      · intro h; exact List.length_eq_zero_iff.1 (by omega)
    rw [this]
  have HD := Lib.hid hD
  have HSm := Lib.hid hSm
  have P1 := Lib.hid p1
  have P2 := Lib.hid p2
  have HUp := Lib.hid hup
  have HM := Lib.hid hm
  have HA := Lib.hid ha
  have HB := Lib.hid hb
  have HFa := Lib.hid fa
  have HFb := Lib.hid fb
  have HV := Lib.hid hv
  have hle := ha.le
  have hle2 := hb.le
  have hln := fb.len
  clear hD hSm p1 p2 hn hup ha hb fa fb hv hm
  go_enter Tryd.func7, Tryd.ntmps7
  go_wp2_with (first
    | (have _h := B4; go_at_call 21; go_loud (refine (CloneCh_any E1 m g1 (fun i => chV D[i]!) _ C4.out.sl (fun _ _ => rfl) (fun i _ => chV_one D i) C4.out.nil (by unfold maxLen; omega) (by omega)).mono ?_; rintro v w5 ⟨v5, rfl, ho5, hb5⟩; obtain ⟨At, ct, rfl⟩ := own_shape ho5; have HO5 := Lib.hid ho5; have HB45 := Lib.hid hb5; clear ho5 hb5))
    | (have _h := B3; go_at_call 11; go_loud (refine (HSm.out _ B3).mono ?_; rintro v w4 ⟨rfl, hb4⟩; have B4 := bstep B3 hb4; have C4 := Lib.hid (C3.out.below hb4)))
    | (have _h := B2; go_at_call 11; go_loud (refine (Same_yes X1 B b.length p k1 d b _ S1.out (HB.out.below B2)).mono ?_; rintro v w3 ⟨rfl, hb3⟩; have B3 := bstep B2 hb3; have C3 := Lib.hid (C2.out.below hb3)))
    | (have _h := B1; go_at_call 20; go_loud (refine (Apply_at A E1 n m c g1 a b D _ (HA.out.below B1) HFa.out C1.out (by omega) P1.out HFb.out).mono ?_; rintro v w2 ⟨X1, k1, rfl, s2, hb2⟩; have S1 := Lib.hid s2; clear s2; have B2 := bstep B1 hb2; have C2 := Lib.hid (C1.out.below hb2)))
    | (go_at_call 19; go_loud (refine (HD.out _ (Below.refl _ _)).mono ?_; rintro v w1 ⟨E1, g1, rfl, s1, B1⟩; have C1 := Lib.hid s1; clear s1)))
  have HT5 : Hid (w5.ownsRow w4.heap.size 49 5 (.slice At m ct) m (rowsV chV (turnD D 0))) := Lib.hid (by
    rw [turnD_zero, rowsV_flat (k := 5) (fun _ => rfl) D, HM.out]; exact HO5.out)
  clear HO5
  go_loopw [10, 11, 67] (fun _ _ i wr => ∃ j : Nat, j ≤ m ∧ i = .int .i64 (j : Int) ∧ Hid (wr.ownsRow w4.heap.size 49 5 (.slice At m ct) m (rowsV chV (turnD D j))) ∧ Below w4.heap.size w4 wr) (fun _ _ i _ => m - (intOf i).toNat)
  case atStart => exact ⟨0, by omega, rfl, HT5, HB45.out⟩
  case round =>
    obtain ⟨j, hj, rfl, HO, hbr⟩ := hrel
    by_cases hlt : j < m
    · have hj0 : (0 : Int) ≤ (j : Int) := by omega
      have hjm : (j : Int) < (m : Int) := by omega
      obtain ⟨bd, od, hE, hbd, hrd⟩ := C4.out.sl (by omega)
      subst hE
      obtain ⟨g, cap, hv', hbg, hlg⟩ := HO.out.form (by omega)
      obtain rfl : At = some ⟨g, 0, none⟩ := (Value.slice.inj hv').1
      have hcap := own_cap HO.out
      unfold maxLen at hcap
      obtain ⟨r, hr⟩ : ∃ r, r + j + 1 = m := ⟨m - 1 - j, by omega⟩
      have hr0 : (m : Int) - 1 - (j : Int) = (r : Int) := by omega
      have hr1 : (0 : Int) ≤ (r : Int) := by omega
      have hr2 : (r : Int) < (m : Int) := by omega
      have HU := Lib.hid (HUp.out j)
      have hq := hrd j hlt
      have HR := Lib.hid hrd
      have HTn := Lib.hid (turnD_next D (j := j) (r := r) (by rw [HM.out]; exact hlt) (by rw [HM.out]; exact hr))
      have HTl := Lib.hid (turnD_len D (j := j) (by rw [HM.out]; exact hj))
      obtain ⟨x, hx⟩ : ∃ x, D[j]! = x := ⟨_, rfl⟩
      dsimp only at hq
      rw [hx] at hq HU HTn
      obtain ⟨k, had, has, old, new⟩ := x
      have q0 : w4.cell? ⟨bd, od + j * 5, none⟩ = some (.string k) := hq 0 _ rfl
      have q1 : w4.cell? ⟨bd, od + j * 5 + 1, none⟩ = some (.bool had) := hq 1 _ rfl
      have q2 : w4.cell? ⟨bd, od + j * 5 + 2, none⟩ = some (.bool has) := hq 2 _ rfl
      have q3 : w4.cell? ⟨bd, od + j * 5 + 3, none⟩ = some (.string old) := hq 3 _ rfl
      have q4 : w4.cell? ⟨bd, od + j * 5 + 4, none⟩ = some (.string new) := hq 4 _ rfl
      have p0 := (hbr.cell (p := ⟨bd, od + j * 5, none⟩) hbd).trans q0
      have p1 := (hbr.cell (p := ⟨bd, od + j * 5 + 1, none⟩) hbd).trans q1
      have p2 := (hbr.cell (p := ⟨bd, od + j * 5 + 2, none⟩) hbd).trans q2
      have p3 := (hbr.cell (p := ⟨bd, od + j * 5 + 3, none⟩) hbd).trans q3
      have p4 := (hbr.cell (p := ⟨bd, od + j * 5 + 4, none⟩) hbd).trans q4
      obtain ⟨Wx, hWx⟩ : ∃ Wx, wr.alloc (.cells #[.string k, .bool had, .bool has, .string old, .string new] 49) = Wx := ⟨_, rfl⟩
      have hbx : Below w4.heap.size w4 Wx := by rw [← hWx]; exact hbr.alloc hbr.size _
      have HOx := Lib.hid (show Wx.ownsRow w4.heap.size 49 5 _ m (rowsV chV (turnD D j)) by rw [← hWx]; exact HO.out.alloc _)
      have HNew := Lib.hid (show Wx.heap[wr.heap.size]? = some (.cells #[.string k, .bool had, .bool has, .string old, .string new] 49 (0, 0)) by rw [← hWx]; exact heap_alloc_new wr _)
      have hzx : wr.heap.size < Wx.heap.size := (Array.getElem?_eq_some_iff.1 HNew.out).1
      have k0 := cell_of_row Wx _ 0 _ 49 (0, 0) HNew.out
      have k1 := cell_of_row Wx _ 1 _ 49 (0, 0) HNew.out
      have k2 := cell_of_row Wx _ 2 _ 49 (0, 0) HNew.out
      have k3 := cell_of_row Wx _ 3 _ 49 (0, 0) HNew.out
      have k4 := cell_of_row Wx _ 4 _ 49 (0, 0) HNew.out
      have s0 := own_some HOx.out (r * 5) (by omega)
      have s1 := own_some HOx.out (r * 5 + 1) (by omega)
      have s2 := own_some HOx.out (r * 5 + 2) (by omega)
      have s3 := own_some HOx.out (r * 5 + 3) (by omega)
      have s4 := own_some HOx.out (r * 5 + 4) (by omega)
      obtain ⟨z0, c0⟩ := Option.isSome_iff_exists.1 s0.1
      obtain ⟨z1, c1⟩ := Option.isSome_iff_exists.1 s1.1
      obtain ⟨z2, c2⟩ := Option.isSome_iff_exists.1 s2.1
      obtain ⟨z3, c3⟩ := Option.isSome_iff_exists.1 s3.1
      obtain ⟨z4, c4⟩ := Option.isSome_iff_exists.1 s4.1
      have f0 := s0.2
      have f1 := s1.2
      have f2 := s2.2
      have f3 := s3.2
      have f4 := s4.2
      have HBx := Lib.hid hbx
      have HBr := Lib.hid hbr
      clear hq q0 q1 q2 q3 q4 hx hrd hbr s0 s1 s2 s3 s4 hv' hbx
      go_wp2_with fail
      obtain ⟨Ws, hWs⟩ : ∃ Ws, (((((Wx.setCell ⟨g, r * 5, none⟩ (.string k)).setCell ⟨g, r * 5 + 1, none⟩ (.bool has)).setCell ⟨g, r * 5 + 2, none⟩ (.bool had)).setCell ⟨g, r * 5 + 3, none⟩ (.string new)).setCell ⟨g, r * 5 + 4, none⟩ (.string old)) = Ws := ⟨_, rfl⟩
      have hos := own_ch HOx.out (HTl.out.trans HM.out) r (by omega) (swapC ⟨k, had, has, old, new⟩)
      rw [HTn.out] at hos
      have HOs := Lib.hid (show Ws.ownsRow w4.heap.size 49 5 (.slice (some ⟨g, 0, none⟩) m ct) m (rowsV chV (turnD D (j + 1))) by rw [← hWs]; exact hos)
      have HBs := Lib.hid (show Below w4.heap.size w4 Ws by
        rw [← hWs]
        exact ((((HBx.out.setCell (p := ⟨g, r * 5, none⟩) hbg _).setCell (p := ⟨g, r * 5 + 1, none⟩) hbg _).setCell (p := ⟨g, r * 5 + 2, none⟩) hbg _).setCell (p := ⟨g, r * 5 + 3, none⟩) hbg _).setCell (p := ⟨g, r * 5 + 4, none⟩) hbg _)
      have gs : Ws.heap[wr.heap.size]? = some (.cells #[.string k, .bool had, .bool has, .string old, .string new] 49 (0, 0)) := by
        rw [← hWs]
        have hne : wr.heap.size ≠ g := by omega
        exact (heap_setCell_other _ _ _ _ hne).trans ((heap_setCell_other _ _ _ _ hne).trans ((heap_setCell_other _ _ _ _ hne).trans ((heap_setCell_other _ _ _ _ hne).trans ((heap_setCell_other _ _ _ _ hne).trans HNew.out))))
      have ks := cell_of_row Ws _ 0 _ 49 (0, 0) gs
      rw [hWs]
      clear hos gs hWs c0 c1 c2 c3 c4 f0 f1 f2 f3 f4 k0 k1 k2 k3 k4 p0 p1 p2 p3 p4
      rcases Nat.eq_zero_or_pos j with rfl | hpos
      · go_quiet (fail)
        go_wp2_with fail
        go_roundw
        case rel => exact ⟨1, by omega, by go_num, Lib.hid (by exact HOs.out), below_drewN HBs.out _⟩
        case measure => simp [intOf]; omega
      · have hU := HU.out hpos hlt
        obtain ⟨r', hr'⟩ : ∃ r', r' + 1 = j := ⟨j - 1, by omega⟩
        have ej : j - 1 = r' := by omega
        rw [ej] at hU
        have hq' := HR.out r' (by omega) 0 _ rfl
        obtain ⟨pk, hpk⟩ : ∃ pk, (D[r']!).key = pk := ⟨_, rfl⟩
        have hq2 : w4.cell? ⟨bd, od + r' * 5, none⟩ = some (.string pk) := by rw [← hpk]; exact hq'
        have pr := (HBs.out.cell (p := ⟨bd, od + r' * 5, none⟩) hbd).trans hq2
        rw [hpk] at hU
        have hb1 : Op.bytesLess k.toList pk.toList = false := lsS_asymm hU
        have hb2 : (k.toList == pk.toList) = false := by
          rw [beq_eq_false_iff_ne]
          intro h
          have := ba_ext h
          subst this
          rw [lsS_irr] at hU
          cases hU
        have hi0 : (j : Int) - 1 = (r' : Int) := by omega
        have hi1 : (0 : Int) ≤ (r' : Int) := by omega
        have hi2 : (r' : Int) < (m : Int) := by omega
        have hi3 : (0 : Int) < (j : Int) := by omega
        clear hU hq' hq2 hpk
        go_quiet (fail)
        go_wp2_with fail
        go_roundw
        case rel => exact ⟨j + 1, by omega, by go_num, Lib.hid (by exact HOs.out), below_drewN HBs.out _⟩
        case measure => simp [intOf]; omega
    · obtain rfl : j = m := by omega
      have hoe := HO.out
      rw [← HM.out, turnD_all, HM.out] at hoe
      have CT := Lib.hid (ChAt.of_own hoe (by rw [List.length_map, List.length_reverse]; exact HM.out))
      have B5 := B4.trans (hbr.mono B4.size)
      clear hoe hbr
      go_wp2_with (first
        | (have _h := B7; go_at_call 11; go_loud (refine (Same_yes Y1 A a.length n y1 c a _ (S6.out.below hb7) (HA.out.below B7)).mono ?_; rintro v w8 ⟨rfl, hb8⟩; have B8 := bstep B7 hb8))
        | (have _h := B6; go_at_call 9; go_loud (refine (Fact_any _ (HV.out.below B6).tab (HV.out.below B6).big).mono ?_; rintro v w7 ⟨rfl, hb7⟩; have B7 := bstep B6 hb7))
        | (go_at_call 20; go_loud (refine (Apply_at B At p j d ct b a (D.reverse.map swapC) _ (HB.out.below B5) HFb.out CT.out (by omega) P2.out HFa.out).mono ?_; rintro v w6 ⟨Y1, y1, rfl, s6, hb6⟩; have S6 := Lib.hid s6; clear s6; have B6 := bstep B5 hb6)))
      go_ret
      exact ⟨rfl, B8⟩
end Go.Proofs.YtojnojjiblcmcaaDoor
