/- Package polygon: Place. -/
import Derived.Test.YtdmecagdjbjgjaaR15
import Derived.Deep.RegionHeld3
import Derived.Deep.CutRange
namespace Go.Proofs.Ytdmecagdjbjgjaa
open Go.RowKit

def onP (a b q : Int × Int) : Bool := onI a.1 a.2 b.1 b.2 q.1 q.2
def flP (a b q : Int × Int) : Bool := (decide (q.2 < a.2) && decide (b.2 ≤ q.2) && decide (trI a.1 a.2 b.1 b.2 q.1 q.2 < 0)) || (decide (a.2 ≤ q.2) && decide (q.2 < b.2) && decide (0 < trI a.1 a.2 b.1 b.2 q.1 q.2))
def plS (F : Nat → Int × Int) (n : Nat) (q : Int × Int) : Nat → Int
  | 0 => -1
  | k + 1 => if plS F n q k = 0 then 0 else if onP (F k) (F ((k + 1) % n)) q = true then 0 else if flP (F k) (F ((k + 1) % n)) q = true then -plS F n q k else plS F n q k
theorem plS_step (F : Nat → Int × Int) (n : Nat) (q : Int × Int) (k : Nat) (h : plS F n q k ≠ 0) : plS F n q (k + 1) = if onP (F k) (F ((k + 1) % n)) q = true then 0 else if flP (F k) (F ((k + 1) % n)) q = true then -plS F n q k else plS F n q k := if_neg h
theorem plS_stop {F : Nat → Int × Int} {n : Nat} {q : Int × Int} {k : Nat} (h : plS F n q k = 0) : ∀ m, k ≤ m → plS F n q m = 0
  | 0, hm => by rw [show k = 0 by omega] at h; exact h
  | m + 1, hm => by
    rcases Nat.lt_or_ge m k with h1 | h1
    · rw [show m + 1 = k by omega]; exact h
    · exact if_pos (plS_stop h m h1)
theorem plS_bd (F : Nat → Int × Int) (n : Nat) (q : Int × Int) : ∀ k, -1 ≤ plS F n q k ∧ plS F n q k ≤ 1
  | 0 => by show (-1 : Int) ≤ -1 ∧ (-1 : Int) ≤ 1; omega
  | k + 1 => by
    have := plS_bd F n q k
    have e : plS F n q (k + 1) = if plS F n q k = 0 then 0 else if onP (F k) (F ((k + 1) % n)) q = true then 0 else if flP (F k) (F ((k + 1) % n)) q = true then -plS F n q k else plS F n q k := rfl
    rw [e]
    split
    · omega
    · split
      · omega
      · split <;> omega

theorem bl_alloc {B : Nat} {w w' : World} (o : Obj) (h : Below B w w') (hB : B ≤ w.heap.size) : Below B w (w'.alloc o) := h.alloc (Nat.le_trans hB h.size) o
theorem bl_drew {B : Nat} {w w' : World} (h : Below B w w') : Below B w w'.drew := h.drew
theorem bl_set {B b i : Nat} {w w' : World} (x : Value) (h : Below B w w') (hb : B ≤ b) : Below B w (w'.setCell ⟨b, i, none⟩ x) := h.setCell (p := ⟨b, i, none⟩) hb x

set_option maxRecDepth 100000 in
set_option maxHeartbeats 16000000 in
theorem Place_any (A : Option Addr) (n c : Nat) (F : Nat → Int × Int) (q : Int × Int) (w : World) (hS : Sl w w.heap.size 2 A n (ptRow F)) (hn : n ≤ 16) (hF : ∀ i, i < n → PtOk (F i)) (hq : PtOk q) :
    Calls Try.prog 81 #[.slice A n c, .agg #[.int .i64 q.1, .int .i64 q.2]] w fun E w' => E = .returned (.int .i64 (plS F n q n)) ∧ Below w.heap.size w w' := by
  obtain ⟨w1, hw1⟩ : ∃ W, w.alloc (.cells #[.int .i64 q.1, .int .i64 q.2] 39) = W := ⟨_, rfl⟩
  have hb1 : Below w.heap.size w w1 := by rw [← hw1]; exact (Below.refl _ _).alloc (Nat.le_refl _) _
  have hy1 : w1.heap[w.heap.size]? = some (.cells #[.int .i64 q.1, .int .i64 q.2] 39 (0, 0)) := by rw [← hw1]; exact heap_alloc_new _ _
  have hl1 : w.heap.size < w1.heap.size := by rw [← hw1]; simp
  have HS1 := Lib.hid ((hS.below hb1).more hb1.size)
  have HB1 := Lib.hid hb1
  have HF := Lib.hid hF
  have HQ := Lib.hid hq
  clear hS hb1 hF hq
  obtain ⟨g, hg⟩ : ∃ g, w.heap.size = g := ⟨_, rfl⟩
  have HG := Lib.hid hg
  rw [hg] at hy1 hl1
  have c0 : w1.cell? ⟨g, 0, none⟩ = some (.int .i64 q.1) := cell_of_row w1 _ 0 _ 39 (0, 0) hy1
  have c1 : w1.cell? ⟨g, 1, none⟩ = some (.int .i64 q.2) := cell_of_row w1 _ 1 _ 39 (0, 0) hy1
  clear hy1
  obtain ⟨q1, q2⟩ := q
  dsimp only at *
  have hn0 : (0 : Int) ≤ (n : Int) := by omega
  go_enter Try.func81, Try.ntmps81
  go_wp2
  go_loopw [5, 12] (fun v i wr => ∃ k : Nat, k ≤ n ∧ i = .int .i64 (k : Int) ∧ v = .int .i64 (plS F n (q1, q2) k) ∧ Hid (plS F n (q1, q2) k ≠ 0) ∧ Hid (Below w1.heap.size w1 wr)) (fun _ i _ => n - (intOf i).toNat)
  case atStart => exact ⟨0, by omega, rfl, rfl, Lib.hid (by show (-1 : Int) ≠ 0; decide), Lib.hid (Below.refl _ _)⟩
  case round =>
    obtain ⟨k, hk, rfl, rfl, HZ, HB⟩ := hrel
    have hzr := HB.out.size
    have hpb := plS_bd F n (q1, q2) k
    by_cases hlt : k < n
    · obtain ⟨bb, o, rfl, hbb, hc⟩ := pt_cells HS1.out (by omega)
      obtain ⟨r0, r1⟩ := hc k hlt
      have d0 := (HB.out.cell (p := ⟨bb, o + k * 2, none⟩) hbb).trans r0
      have d1 := (HB.out.cell (p := ⟨bb, o + k * 2 + 1, none⟩) hbb).trans r1
      have HNX := Lib.hid (fun W (h : Below wr.heap.size wr W) => next_any (some ⟨bb, o, none⟩) n c F k W (((HS1.out.below (HB.out.trans (h.mono hzr))).more (HB.out.trans (h.mono hzr)).size)) hlt hn)
      have HST := Lib.hid (plS_step F n (q1, q2) k HZ.out)
      have HA := Lib.hid (HF.out k hlt)
      have HBo := Lib.hid (HF.out ((k + 1) % n) (Nat.mod_lt _ (by omega)))
      have HL0 := Lib.hid (fun h => plS_stop (F := F) (n := n) (q := (q1, q2)) (k := k + 1) h n (by omega))
      clear r0 r1 hc
      obtain ⟨a, ha⟩ : ∃ a, F k = a := ⟨_, rfl⟩
      obtain ⟨b, hb⟩ : ∃ b, F ((k + 1) % n) = b := ⟨_, rfl⟩
      rw [ha] at d0 d1 HST HA
      rw [hb] at HST HBo HNX
      clear ha hb
      obtain ⟨a1, a2⟩ := a
      obtain ⟨b1, b2⟩ := b
      unfold onP flP at HST
      dsimp only at d0 d1 HST HA HBo HNX
      have ha := HA.out
      have hb := HBo.out
      have hq := HQ.out
      unfold PtOk at ha hb hq
      dsimp only at ha hb hq
      have HON := Lib.hid (fun W => on_any a1 a2 b1 b2 q1 q2 W ha.1 ha.2 hb.1 hb.2 hq.1 hq.2)
      have HTU := Lib.hid (fun W => Turn_any a1 a2 b1 b2 q1 q2 W ha.1 ha.2 hb.1 hb.2 hq.1 hq.2)
      generalize onI a1 a2 b1 b2 q1 q2 = on at *
      generalize trI a1 a2 b1 b2 q1 q2 = t at *
      obtain ⟨pn, hpn⟩ : ∃ x, plS F n (q1, q2) (k + 1) = x := ⟨_, rfl⟩
      rw [hpn] at HST HL0
      have HPN := Lib.hid hpn
      clear hpn
      obtain ⟨pk, hpk⟩ : ∃ x, plS F n (q1, q2) k = x := ⟨_, rfl⟩
      rw [hpk] at HZ HST hpb ⊢
      clear ha hb hq hpk HA HBo
      have l1 : (k : Int) < (n : Int) := by omega
      have l0 : (0 : Int) ≤ (k : Int) := by omega
      have hwk : IntKind.i64.wrap ((k : Int) + 1) = (k : Int) + 1 := IntWalk.i64_in _ (by omega)
      have hwn : IntKind.i64.wrap (-pk) = -pk := IntWalk.i64_in _ (by omega)
      obtain ⟨wo, rfl⟩ : ∃ wo, wo = wr := ⟨_, rfl⟩
      have hbo : bb < wo.heap.size := by omega
      have HSK := Lib.hid (fun W (h : Below wo.heap.size wo W) => show Below wo.heap.size wo W ∧ W.cell? ⟨bb, o + k * 2, none⟩ = some (.int .i64 a1) ∧ W.cell? ⟨bb, o + k * 2 + 1, none⟩ = some (.int .i64 a2) from ⟨h, (h.cell (p := ⟨bb, o + k * 2, none⟩) hbo).trans d0, (h.cell (p := ⟨bb, o + k * 2 + 1, none⟩) hbo).trans d1⟩)
      have hs0 := HSK.out _ (Below.refl wo.heap.size wo).drew
      have HW0 := Lib.hid (Below.refl wo.heap.size wo)
      go_upto_region 5 with fail
      go_cut [7, 8] from 14 to 63 (fun s7 s8 wx => ∃ B C, s7 = .pointer (some ⟨B, 0, none⟩) ∧ s8 = .pointer (some ⟨C, 0, none⟩) ∧ wx.cell? ⟨B, 0, none⟩ = some (.int .i64 a1) ∧ wx.cell? ⟨B, 1, none⟩ = some (.int .i64 a2) ∧ wx.cell? ⟨C, 0, none⟩ = some (.int .i64 b1) ∧ wx.cell? ⟨C, 1, none⟩ = some (.int .i64 b2) ∧ Below wo.heap.size wo wx)
      case first =>
        refine wp_region_held_drew (S := (fun W => Below wo.heap.size wo W ∧ W.cell? ⟨bb, o + k * 2, none⟩ = some (.int .i64 a1) ∧ W.cell? ⟨bb, o + k * 2 + 1, none⟩ = some (.int .i64 a2))) (by kernel_rfl) hs0 (fun hHeld => ?_)
        refine wpAnyH_take (i := 0) (oi := ⟨some 15, _, _, _, _, _⟩) (v := ?v0) rfl (by kernel_rfl) (by kernel_rfl) (by kernel_rfl) (fun _ _ _ h => h) (Or.inl ⟨by rfl, ?y0⟩) hHeld ?r0
        case y0 => (intro W hSw; (try dsimp only at hSw); go_simp; try with_reducible rfl)
        try simp only [Act.put, List.setIfInBounds_toArray, List.set_cons_zero, List.set_cons_succ]
        refine wpAnyH_take (i := 1) (oi := ⟨some 16, _, _, _, _, _⟩) (v := ?v1) rfl (by kernel_rfl) (by kernel_rfl) (by kernel_rfl) (fun _ _ _ h => h) (Or.inl ⟨by rfl, ?y1⟩) hHeld ?r1
        case y1 => (intro W hSw; (try dsimp only at hSw); go_simp; try with_reducible rfl)
        try simp only [Act.put, List.setIfInBounds_toArray, List.set_cons_zero, List.set_cons_succ]
        refine wpAnyH_take (i := 2) (oi := ⟨some 17, _, _, _, _, _⟩) (v := ?v2) rfl (by kernel_rfl) (by kernel_rfl) (by kernel_rfl) (fun _ _ _ h => h) (Or.inl ⟨by rfl, ?y2⟩) hHeld ?r2
        case y2 => (intro W hSw; (try dsimp only at hSw); go_simp; try with_reducible rfl)
        try simp only [Act.put, List.setIfInBounds_toArray, List.set_cons_zero, List.set_cons_succ]
        refine wpAnyH_take (i := 3) (oi := ⟨some 18, _, _, _, _, _⟩) (v := ?v3) rfl (by kernel_rfl) (by kernel_rfl) (by kernel_rfl) (fun _ _ _ h => h) (Or.inl ⟨by rfl, ?y3⟩) hHeld ?r3
        case y3 => (intro W hSw; (try dsimp only at hSw); go_simp; try with_reducible rfl)
        try simp only [Act.put, List.setIfInBounds_toArray, List.set_cons_zero, List.set_cons_succ]
        refine wpAnyH_take (i := 4) (oi := ⟨some 19, _, _, _, _, _⟩) (v := ?v4) rfl (by kernel_rfl) (by kernel_rfl) (by kernel_rfl) (fun _ _ _ h => h) (Or.inl ⟨by rfl, ?y4⟩) hHeld ?r4
        case y4 => (intro W hSw; (try dsimp only at hSw); go_simp; try with_reducible rfl)
        try simp only [Act.put, List.setIfInBounds_toArray, List.set_cons_zero, List.set_cons_succ]
        refine wpAnyH_take (i := 5) (oi := ⟨some 20, _, _, _, _, _⟩) (v := ?v5) rfl (by kernel_rfl) (by kernel_rfl) (by kernel_rfl) (fun _ _ _ h => h) (Or.inl ⟨by rfl, ?y5⟩) hHeld ?r5
        case y5 => (intro W hSw; (try dsimp only at hSw); go_simp; try with_reducible rfl)
        try simp only [Act.put, List.setIfInBounds_toArray, List.set_cons_zero, List.set_cons_succ]
        obtain ⟨V0, hV0⟩ : ∃ V, wo.drew = V := ⟨_, rfl⟩
        rw [hV0]
        have HV0 := Lib.hid (show Below wo.heap.size wo V0 by rw [← hV0]; exact (Below.refl _ _).drew)
        clear hV0 hHeld hs0 d0 d1
        have hzV0 := HV0.out.size
        refine wpAnyH_ready (rs := [6, 7, 8]) (by kernel_rfl) (by simp) ?_
        refine (AllReadyH.cons (o := ⟨some 21, _, _, _, _, _⟩) rfl (fun K hK => ?_) (AllReadyH.cons (o := ⟨some 7, _, _, _, _, _⟩) rfl (fun K hK => ?_) (AllReadyH.cons (o := ⟨some 8, _, _, _, _, _⟩) rfl (fun K hK => ?_) AllReadyH.nil)))
        · go_simp
          go_at_call 59
          refine (HNX.out V0 HV0.out).mono ?_
          rintro E W1 ⟨rfl, hb⟩
          have hz1 := hb.size
          have HW1 := Lib.hid (HV0.out.trans (hb.mono HV0.out.size))
          refine hK.out _ _ (HSK.out _ HW1.out) (fun hHeld => ?_)
          clear hK K hb hHeld
          try simp only [Act.put, List.setIfInBounds_toArray, List.set_cons_zero, List.set_cons_succ]
          refine wpAnyH_ready (rs := [7, 8]) (by kernel_rfl) (by simp) ?_
          refine (AllReadyH.cons (o := ⟨some 7, _, _, _, _, _⟩) rfl (fun K hK => ?_) (AllReadyH.cons (o := ⟨some 8, _, _, _, _, _⟩) rfl (fun K hK => ?_) AllReadyH.nil))
          · go_simp
            obtain ⟨W2, hW2⟩ : ∃ V, W1.alloc (.cells #[.int .i64 0, .int .i64 0] 39) = V := ⟨_, rfl⟩
            rw [hW2]
            have hz2 : W1.heap.size < W2.heap.size := by rw [← hW2]; simp
            have HW2 := Lib.hid (show Below wo.heap.size wo W2 by rw [← hW2]; exact bl_alloc _ HW1.out (Nat.le_refl _))
            have g2_7 := Lib.hid (show W2.heap[W1.heap.size]? = some (.cells #[.int .i64 0, .int .i64 0] 39 (0, 0)) by rw [← hW2]; exact heap_alloc_new _ _)
            refine hK.out _ _ (HSK.out _ HW2.out) (fun hHeld => ?_)
            clear hK K hW2 hHeld
            try simp only [Act.put, List.setIfInBounds_toArray, List.set_cons_zero, List.set_cons_succ]
            refine wpAnyH_ready (rs := [8]) (by kernel_rfl) (by simp) ?_
            refine (AllReadyH.cons (o := ⟨some 8, _, _, _, _, _⟩) rfl (fun K hK => ?_) AllReadyH.nil)
            · go_simp
              obtain ⟨W3, hW3⟩ : ∃ V, W2.alloc (.cells #[.int .i64 0, .int .i64 0] 39) = V := ⟨_, rfl⟩
              rw [hW3]
              have hz3 : W2.heap.size < W3.heap.size := by rw [← hW3]; simp
              have HW3 := Lib.hid (show Below wo.heap.size wo W3 by rw [← hW3]; exact bl_alloc _ HW2.out (Nat.le_refl _))
              have g3_7 := Lib.hid (show W3.heap[W1.heap.size]? = some (.cells #[.int .i64 0, .int .i64 0] 39 (0, 0)) by rw [← hW3]; exact (Below.heap_alloc _ _ (W1.heap.size) (by omega)).trans g2_7.out)
              have g3_8 := Lib.hid (show W3.heap[W2.heap.size]? = some (.cells #[.int .i64 0, .int .i64 0] 39 (0, 0)) by rw [← hW3]; exact heap_alloc_new _ _)
              refine hK.out _ _ (HSK.out _ HW3.out) (fun hHeld => ?_)
              clear hK K hW3 hHeld
              try simp only [Act.put, List.setIfInBounds_toArray, List.set_cons_zero, List.set_cons_succ]
              have e0 := cell_of_row W3 _ 0 _ 39 (0, 0) g3_7.out
              have e1 := cell_of_row W3 _ 1 _ 39 (0, 0) g3_7.out
              have f0 := frozen_of_row W3 _ 0 _ 39 g3_7.out
              have f1 := frozen_of_row W3 _ 1 _ 39 g3_7.out
              simp only [List.getElem?_toArray, List.getElem?_cons_zero, List.getElem?_cons_succ] at e0 e1
              refine wpAnyH_ready (rs := [9]) (by kernel_rfl) (by simp) ?_
              refine AllReadyH.cons (o := ⟨none, _, _, _, _, _⟩) rfl (fun K hK => ?_) AllReadyH.nil
              go_simp
              obtain ⟨W4, hW4⟩ : ∃ V, (W3.setCell ⟨W1.heap.size, 0, none⟩ (.int .i64 a1)).setCell ⟨W1.heap.size, 1, none⟩ (.int .i64 a2) = V := ⟨_, rfl⟩
              rw [hW4]
              have GW4 := Lib.hid (show W4.heap[W1.heap.size]? = some (.cells #[.int .i64 a1, .int .i64 a2] 39 (0, 0)) by rw [← hW4]; exact heap_setCell_same _ _ 1 _ 39 _ (heap_setCell_same _ _ 0 _ 39 _ g3_7.out))
              have OW4 := Lib.hid (show W4.heap[W2.heap.size]? = some (.cells #[.int .i64 0, .int .i64 0] 39 (0, 0)) by rw [← hW4]; exact (heap_setCell_other _ _ _ _ (by show W2.heap.size ≠ W1.heap.size; omega)).trans ((heap_setCell_other _ _ _ _ (by show W2.heap.size ≠ W1.heap.size; omega)).trans g3_8.out))
              have HW4 := Lib.hid (show Below wo.heap.size wo W4 by rw [← hW4]; exact bl_set _ (bl_set _ HW3.out (by omega)) (by omega))
              refine hK.out _ _ (HSK.out _ HW4.out) (fun hHeld => ?_)
              clear hK K hW4 e0 e1 f0 f1 hHeld
              try simp only [Act.put, List.setIfInBounds_toArray, List.set_cons_zero, List.set_cons_succ]
              have e0 := cell_of_row W4 _ 0 _ 39 (0, 0) OW4.out
              have e1 := cell_of_row W4 _ 1 _ 39 (0, 0) OW4.out
              have f0 := frozen_of_row W4 _ 0 _ 39 OW4.out
              have f1 := frozen_of_row W4 _ 1 _ 39 OW4.out
              simp only [List.getElem?_toArray, List.getElem?_cons_zero, List.getElem?_cons_succ] at e0 e1
              refine wpAnyH_ready (rs := [10]) (by kernel_rfl) (by simp) ?_
              refine AllReadyH.cons (o := ⟨none, _, _, _, _, _⟩) rfl (fun K hK => ?_) AllReadyH.nil
              go_simp
              obtain ⟨W5, hW5⟩ : ∃ V, (W4.setCell ⟨W2.heap.size, 0, none⟩ (.int .i64 b1)).setCell ⟨W2.heap.size, 1, none⟩ (.int .i64 b2) = V := ⟨_, rfl⟩
              rw [hW5]
              have GW5 := Lib.hid (show W5.heap[W2.heap.size]? = some (.cells #[.int .i64 b1, .int .i64 b2] 39 (0, 0)) by rw [← hW5]; exact heap_setCell_same _ _ 1 _ 39 _ (heap_setCell_same _ _ 0 _ 39 _ OW4.out))
              have OW5 := Lib.hid (show W5.heap[W1.heap.size]? = some (.cells #[.int .i64 a1, .int .i64 a2] 39 (0, 0)) by rw [← hW5]; exact (heap_setCell_other _ _ _ _ (by show W1.heap.size ≠ W2.heap.size; omega)).trans ((heap_setCell_other _ _ _ _ (by show W1.heap.size ≠ W2.heap.size; omega)).trans GW4.out))
              have HW5 := Lib.hid (show Below wo.heap.size wo W5 by rw [← hW5]; exact bl_set _ (bl_set _ HW4.out (by omega)) (by omega))
              refine hK.out _ _ (HSK.out _ HW5.out) (fun hHeld => ?_)
              clear hK K hW5 e0 e1 f0 f1 hHeld
              try simp only [Act.put, List.setIfInBounds_toArray, List.set_cons_zero, List.set_cons_succ]
              refine wpAnyH_done (by kernel_rfl) ?_ _
              go_wp2_with fail
              go_meet
              case rel => exact ⟨_, _, rfl, rfl, cell_of_row W5 _ 0 _ 39 (0, 0) OW5.out, cell_of_row W5 _ 1 _ 39 (0, 0) OW5.out, cell_of_row W5 _ 0 _ 39 (0, 0) GW5.out, cell_of_row W5 _ 1 _ 39 (0, 0) GW5.out, HW5.out⟩
          · go_simp
            obtain ⟨W6, hW6⟩ : ∃ V, W1.alloc (.cells #[.int .i64 0, .int .i64 0] 39) = V := ⟨_, rfl⟩
            rw [hW6]
            have hz6 : W1.heap.size < W6.heap.size := by rw [← hW6]; simp
            have HW6 := Lib.hid (show Below wo.heap.size wo W6 by rw [← hW6]; exact bl_alloc _ HW1.out (Nat.le_refl _))
            have g6_8 := Lib.hid (show W6.heap[W1.heap.size]? = some (.cells #[.int .i64 0, .int .i64 0] 39 (0, 0)) by rw [← hW6]; exact heap_alloc_new _ _)
            refine hK.out _ _ (HSK.out _ HW6.out) (fun hHeld => ?_)
            clear hK K hW6 hHeld
            try simp only [Act.put, List.setIfInBounds_toArray, List.set_cons_zero, List.set_cons_succ]
            refine wpAnyH_ready (rs := [7]) (by kernel_rfl) (by simp) ?_
            refine (AllReadyH.cons (o := ⟨some 7, _, _, _, _, _⟩) rfl (fun K hK => ?_) AllReadyH.nil)
            · go_simp
              obtain ⟨W7, hW7⟩ : ∃ V, W6.alloc (.cells #[.int .i64 0, .int .i64 0] 39) = V := ⟨_, rfl⟩
              rw [hW7]
              have hz7 : W6.heap.size < W7.heap.size := by rw [← hW7]; simp
              have HW7 := Lib.hid (show Below wo.heap.size wo W7 by rw [← hW7]; exact bl_alloc _ HW6.out (Nat.le_refl _))
              have g7_8 := Lib.hid (show W7.heap[W1.heap.size]? = some (.cells #[.int .i64 0, .int .i64 0] 39 (0, 0)) by rw [← hW7]; exact (Below.heap_alloc _ _ (W1.heap.size) (by omega)).trans g6_8.out)
              have g7_7 := Lib.hid (show W7.heap[W6.heap.size]? = some (.cells #[.int .i64 0, .int .i64 0] 39 (0, 0)) by rw [← hW7]; exact heap_alloc_new _ _)
              refine hK.out _ _ (HSK.out _ HW7.out) (fun hHeld => ?_)
              clear hK K hW7 hHeld
              try simp only [Act.put, List.setIfInBounds_toArray, List.set_cons_zero, List.set_cons_succ]
              have e0 := cell_of_row W7 _ 0 _ 39 (0, 0) g7_7.out
              have e1 := cell_of_row W7 _ 1 _ 39 (0, 0) g7_7.out
              have f0 := frozen_of_row W7 _ 0 _ 39 g7_7.out
              have f1 := frozen_of_row W7 _ 1 _ 39 g7_7.out
              simp only [List.getElem?_toArray, List.getElem?_cons_zero, List.getElem?_cons_succ] at e0 e1
              refine wpAnyH_ready (rs := [9]) (by kernel_rfl) (by simp) ?_
              refine AllReadyH.cons (o := ⟨none, _, _, _, _, _⟩) rfl (fun K hK => ?_) AllReadyH.nil
              go_simp
              obtain ⟨W8, hW8⟩ : ∃ V, (W7.setCell ⟨W6.heap.size, 0, none⟩ (.int .i64 a1)).setCell ⟨W6.heap.size, 1, none⟩ (.int .i64 a2) = V := ⟨_, rfl⟩
              rw [hW8]
              have GW8 := Lib.hid (show W8.heap[W6.heap.size]? = some (.cells #[.int .i64 a1, .int .i64 a2] 39 (0, 0)) by rw [← hW8]; exact heap_setCell_same _ _ 1 _ 39 _ (heap_setCell_same _ _ 0 _ 39 _ g7_7.out))
              have OW8 := Lib.hid (show W8.heap[W1.heap.size]? = some (.cells #[.int .i64 0, .int .i64 0] 39 (0, 0)) by rw [← hW8]; exact (heap_setCell_other _ _ _ _ (by show W1.heap.size ≠ W6.heap.size; omega)).trans ((heap_setCell_other _ _ _ _ (by show W1.heap.size ≠ W6.heap.size; omega)).trans g7_8.out))
              have HW8 := Lib.hid (show Below wo.heap.size wo W8 by rw [← hW8]; exact bl_set _ (bl_set _ HW7.out (by omega)) (by omega))
              refine hK.out _ _ (HSK.out _ HW8.out) (fun hHeld => ?_)
              clear hK K hW8 e0 e1 f0 f1 hHeld
              try simp only [Act.put, List.setIfInBounds_toArray, List.set_cons_zero, List.set_cons_succ]
              have e0 := cell_of_row W8 _ 0 _ 39 (0, 0) OW8.out
              have e1 := cell_of_row W8 _ 1 _ 39 (0, 0) OW8.out
              have f0 := frozen_of_row W8 _ 0 _ 39 OW8.out
              have f1 := frozen_of_row W8 _ 1 _ 39 OW8.out
              simp only [List.getElem?_toArray, List.getElem?_cons_zero, List.getElem?_cons_succ] at e0 e1
              refine wpAnyH_ready (rs := [10]) (by kernel_rfl) (by simp) ?_
              refine AllReadyH.cons (o := ⟨none, _, _, _, _, _⟩) rfl (fun K hK => ?_) AllReadyH.nil
              go_simp
              obtain ⟨W9, hW9⟩ : ∃ V, (W8.setCell ⟨W1.heap.size, 0, none⟩ (.int .i64 b1)).setCell ⟨W1.heap.size, 1, none⟩ (.int .i64 b2) = V := ⟨_, rfl⟩
              rw [hW9]
              have GW9 := Lib.hid (show W9.heap[W1.heap.size]? = some (.cells #[.int .i64 b1, .int .i64 b2] 39 (0, 0)) by rw [← hW9]; exact heap_setCell_same _ _ 1 _ 39 _ (heap_setCell_same _ _ 0 _ 39 _ OW8.out))
              have OW9 := Lib.hid (show W9.heap[W6.heap.size]? = some (.cells #[.int .i64 a1, .int .i64 a2] 39 (0, 0)) by rw [← hW9]; exact (heap_setCell_other _ _ _ _ (by show W6.heap.size ≠ W1.heap.size; omega)).trans ((heap_setCell_other _ _ _ _ (by show W6.heap.size ≠ W1.heap.size; omega)).trans GW8.out))
              have HW9 := Lib.hid (show Below wo.heap.size wo W9 by rw [← hW9]; exact bl_set _ (bl_set _ HW8.out (by omega)) (by omega))
              refine hK.out _ _ (HSK.out _ HW9.out) (fun hHeld => ?_)
              clear hK K hW9 e0 e1 f0 f1 hHeld
              try simp only [Act.put, List.setIfInBounds_toArray, List.set_cons_zero, List.set_cons_succ]
              refine wpAnyH_done (by kernel_rfl) ?_ _
              go_wp2_with fail
              go_meet
              case rel => exact ⟨_, _, rfl, rfl, cell_of_row W9 _ 0 _ 39 (0, 0) OW9.out, cell_of_row W9 _ 1 _ 39 (0, 0) OW9.out, cell_of_row W9 _ 0 _ 39 (0, 0) GW9.out, cell_of_row W9 _ 1 _ 39 (0, 0) GW9.out, HW9.out⟩
        · go_simp
          obtain ⟨W10, hW10⟩ : ∃ V, V0.alloc (.cells #[.int .i64 0, .int .i64 0] 39) = V := ⟨_, rfl⟩
          rw [hW10]
          have hz10 : V0.heap.size < W10.heap.size := by rw [← hW10]; simp
          have HW10 := Lib.hid (show Below wo.heap.size wo W10 by rw [← hW10]; exact bl_alloc _ HV0.out (Nat.le_refl _))
          have g10_7 := Lib.hid (show W10.heap[V0.heap.size]? = some (.cells #[.int .i64 0, .int .i64 0] 39 (0, 0)) by rw [← hW10]; exact heap_alloc_new _ _)
          refine hK.out _ _ (HSK.out _ HW10.out) (fun hHeld => ?_)
          clear hK K hW10 hHeld
          try simp only [Act.put, List.setIfInBounds_toArray, List.set_cons_zero, List.set_cons_succ]
          refine wpAnyH_ready (rs := [6, 8]) (by kernel_rfl) (by simp) ?_
          refine (AllReadyH.cons (o := ⟨some 21, _, _, _, _, _⟩) rfl (fun K hK => ?_) (AllReadyH.cons (o := ⟨some 8, _, _, _, _, _⟩) rfl (fun K hK => ?_) AllReadyH.nil))
          · go_simp
            go_at_call 59
            refine (HNX.out W10 HW10.out).mono ?_
            rintro E W11 ⟨rfl, hb⟩
            have hz11 := hb.size
            have HW11 := Lib.hid (HW10.out.trans (hb.mono HW10.out.size))
            have g11_7 := Lib.hid ((hb.block (V0.heap.size) (by omega)).trans g10_7.out)
            refine hK.out _ _ (HSK.out _ HW11.out) (fun hHeld => ?_)
            clear hK K hb hHeld
            try simp only [Act.put, List.setIfInBounds_toArray, List.set_cons_zero, List.set_cons_succ]
            refine wpAnyH_ready (rs := [8]) (by kernel_rfl) (by simp) ?_
            refine (AllReadyH.cons (o := ⟨some 8, _, _, _, _, _⟩) rfl (fun K hK => ?_) AllReadyH.nil)
            · go_simp
              obtain ⟨W12, hW12⟩ : ∃ V, W11.alloc (.cells #[.int .i64 0, .int .i64 0] 39) = V := ⟨_, rfl⟩
              rw [hW12]
              have hz12 : W11.heap.size < W12.heap.size := by rw [← hW12]; simp
              have HW12 := Lib.hid (show Below wo.heap.size wo W12 by rw [← hW12]; exact bl_alloc _ HW11.out (Nat.le_refl _))
              have g12_7 := Lib.hid (show W12.heap[V0.heap.size]? = some (.cells #[.int .i64 0, .int .i64 0] 39 (0, 0)) by rw [← hW12]; exact (Below.heap_alloc _ _ (V0.heap.size) (by omega)).trans g11_7.out)
              have g12_8 := Lib.hid (show W12.heap[W11.heap.size]? = some (.cells #[.int .i64 0, .int .i64 0] 39 (0, 0)) by rw [← hW12]; exact heap_alloc_new _ _)
              refine hK.out _ _ (HSK.out _ HW12.out) (fun hHeld => ?_)
              clear hK K hW12 hHeld
              try simp only [Act.put, List.setIfInBounds_toArray, List.set_cons_zero, List.set_cons_succ]
              have e0 := cell_of_row W12 _ 0 _ 39 (0, 0) g12_7.out
              have e1 := cell_of_row W12 _ 1 _ 39 (0, 0) g12_7.out
              have f0 := frozen_of_row W12 _ 0 _ 39 g12_7.out
              have f1 := frozen_of_row W12 _ 1 _ 39 g12_7.out
              simp only [List.getElem?_toArray, List.getElem?_cons_zero, List.getElem?_cons_succ] at e0 e1
              refine wpAnyH_ready (rs := [9]) (by kernel_rfl) (by simp) ?_
              refine AllReadyH.cons (o := ⟨none, _, _, _, _, _⟩) rfl (fun K hK => ?_) AllReadyH.nil
              go_simp
              obtain ⟨W13, hW13⟩ : ∃ V, (W12.setCell ⟨V0.heap.size, 0, none⟩ (.int .i64 a1)).setCell ⟨V0.heap.size, 1, none⟩ (.int .i64 a2) = V := ⟨_, rfl⟩
              rw [hW13]
              have GW13 := Lib.hid (show W13.heap[V0.heap.size]? = some (.cells #[.int .i64 a1, .int .i64 a2] 39 (0, 0)) by rw [← hW13]; exact heap_setCell_same _ _ 1 _ 39 _ (heap_setCell_same _ _ 0 _ 39 _ g12_7.out))
              have OW13 := Lib.hid (show W13.heap[W11.heap.size]? = some (.cells #[.int .i64 0, .int .i64 0] 39 (0, 0)) by rw [← hW13]; exact (heap_setCell_other _ _ _ _ (by show W11.heap.size ≠ V0.heap.size; omega)).trans ((heap_setCell_other _ _ _ _ (by show W11.heap.size ≠ V0.heap.size; omega)).trans g12_8.out))
              have HW13 := Lib.hid (show Below wo.heap.size wo W13 by rw [← hW13]; exact bl_set _ (bl_set _ HW12.out (by omega)) (by omega))
              refine hK.out _ _ (HSK.out _ HW13.out) (fun hHeld => ?_)
              clear hK K hW13 e0 e1 f0 f1 hHeld
              try simp only [Act.put, List.setIfInBounds_toArray, List.set_cons_zero, List.set_cons_succ]
              have e0 := cell_of_row W13 _ 0 _ 39 (0, 0) OW13.out
              have e1 := cell_of_row W13 _ 1 _ 39 (0, 0) OW13.out
              have f0 := frozen_of_row W13 _ 0 _ 39 OW13.out
              have f1 := frozen_of_row W13 _ 1 _ 39 OW13.out
              simp only [List.getElem?_toArray, List.getElem?_cons_zero, List.getElem?_cons_succ] at e0 e1
              refine wpAnyH_ready (rs := [10]) (by kernel_rfl) (by simp) ?_
              refine AllReadyH.cons (o := ⟨none, _, _, _, _, _⟩) rfl (fun K hK => ?_) AllReadyH.nil
              go_simp
              obtain ⟨W14, hW14⟩ : ∃ V, (W13.setCell ⟨W11.heap.size, 0, none⟩ (.int .i64 b1)).setCell ⟨W11.heap.size, 1, none⟩ (.int .i64 b2) = V := ⟨_, rfl⟩
              rw [hW14]
              have GW14 := Lib.hid (show W14.heap[W11.heap.size]? = some (.cells #[.int .i64 b1, .int .i64 b2] 39 (0, 0)) by rw [← hW14]; exact heap_setCell_same _ _ 1 _ 39 _ (heap_setCell_same _ _ 0 _ 39 _ OW13.out))
              have OW14 := Lib.hid (show W14.heap[V0.heap.size]? = some (.cells #[.int .i64 a1, .int .i64 a2] 39 (0, 0)) by rw [← hW14]; exact (heap_setCell_other _ _ _ _ (by show V0.heap.size ≠ W11.heap.size; omega)).trans ((heap_setCell_other _ _ _ _ (by show V0.heap.size ≠ W11.heap.size; omega)).trans GW13.out))
              have HW14 := Lib.hid (show Below wo.heap.size wo W14 by rw [← hW14]; exact bl_set _ (bl_set _ HW13.out (by omega)) (by omega))
              refine hK.out _ _ (HSK.out _ HW14.out) (fun hHeld => ?_)
              clear hK K hW14 e0 e1 f0 f1 hHeld
              try simp only [Act.put, List.setIfInBounds_toArray, List.set_cons_zero, List.set_cons_succ]
              refine wpAnyH_done (by kernel_rfl) ?_ _
              go_wp2_with fail
              go_meet
              case rel => exact ⟨_, _, rfl, rfl, cell_of_row W14 _ 0 _ 39 (0, 0) OW14.out, cell_of_row W14 _ 1 _ 39 (0, 0) OW14.out, cell_of_row W14 _ 0 _ 39 (0, 0) GW14.out, cell_of_row W14 _ 1 _ 39 (0, 0) GW14.out, HW14.out⟩
          · go_simp
            obtain ⟨W15, hW15⟩ : ∃ V, W10.alloc (.cells #[.int .i64 0, .int .i64 0] 39) = V := ⟨_, rfl⟩
            rw [hW15]
            have hz15 : W10.heap.size < W15.heap.size := by rw [← hW15]; simp
            have HW15 := Lib.hid (show Below wo.heap.size wo W15 by rw [← hW15]; exact bl_alloc _ HW10.out (Nat.le_refl _))
            have g15_7 := Lib.hid (show W15.heap[V0.heap.size]? = some (.cells #[.int .i64 0, .int .i64 0] 39 (0, 0)) by rw [← hW15]; exact (Below.heap_alloc _ _ (V0.heap.size) (by omega)).trans g10_7.out)
            have g15_8 := Lib.hid (show W15.heap[W10.heap.size]? = some (.cells #[.int .i64 0, .int .i64 0] 39 (0, 0)) by rw [← hW15]; exact heap_alloc_new _ _)
            refine hK.out _ _ (HSK.out _ HW15.out) (fun hHeld => ?_)
            clear hK K hW15 hHeld
            try simp only [Act.put, List.setIfInBounds_toArray, List.set_cons_zero, List.set_cons_succ]
            refine wpAnyH_ready (rs := [6]) (by kernel_rfl) (by simp) ?_
            refine (AllReadyH.cons (o := ⟨some 21, _, _, _, _, _⟩) rfl (fun K hK => ?_) AllReadyH.nil)
            · go_simp
              go_at_call 59
              refine (HNX.out W15 HW15.out).mono ?_
              rintro E W16 ⟨rfl, hb⟩
              have hz16 := hb.size
              have HW16 := Lib.hid (HW15.out.trans (hb.mono HW15.out.size))
              have g16_7 := Lib.hid ((hb.block (V0.heap.size) (by omega)).trans g15_7.out)
              have g16_8 := Lib.hid ((hb.block (W10.heap.size) (by omega)).trans g15_8.out)
              refine hK.out _ _ (HSK.out _ HW16.out) (fun hHeld => ?_)
              clear hK K hb hHeld
              try simp only [Act.put, List.setIfInBounds_toArray, List.set_cons_zero, List.set_cons_succ]
              have e0 := cell_of_row W16 _ 0 _ 39 (0, 0) g16_7.out
              have e1 := cell_of_row W16 _ 1 _ 39 (0, 0) g16_7.out
              have f0 := frozen_of_row W16 _ 0 _ 39 g16_7.out
              have f1 := frozen_of_row W16 _ 1 _ 39 g16_7.out
              simp only [List.getElem?_toArray, List.getElem?_cons_zero, List.getElem?_cons_succ] at e0 e1
              refine wpAnyH_ready (rs := [9]) (by kernel_rfl) (by simp) ?_
              refine AllReadyH.cons (o := ⟨none, _, _, _, _, _⟩) rfl (fun K hK => ?_) AllReadyH.nil
              go_simp
              obtain ⟨W17, hW17⟩ : ∃ V, (W16.setCell ⟨V0.heap.size, 0, none⟩ (.int .i64 a1)).setCell ⟨V0.heap.size, 1, none⟩ (.int .i64 a2) = V := ⟨_, rfl⟩
              rw [hW17]
              have GW17 := Lib.hid (show W17.heap[V0.heap.size]? = some (.cells #[.int .i64 a1, .int .i64 a2] 39 (0, 0)) by rw [← hW17]; exact heap_setCell_same _ _ 1 _ 39 _ (heap_setCell_same _ _ 0 _ 39 _ g16_7.out))
              have OW17 := Lib.hid (show W17.heap[W10.heap.size]? = some (.cells #[.int .i64 0, .int .i64 0] 39 (0, 0)) by rw [← hW17]; exact (heap_setCell_other _ _ _ _ (by show W10.heap.size ≠ V0.heap.size; omega)).trans ((heap_setCell_other _ _ _ _ (by show W10.heap.size ≠ V0.heap.size; omega)).trans g16_8.out))
              have HW17 := Lib.hid (show Below wo.heap.size wo W17 by rw [← hW17]; exact bl_set _ (bl_set _ HW16.out (by omega)) (by omega))
              refine hK.out _ _ (HSK.out _ HW17.out) (fun hHeld => ?_)
              clear hK K hW17 e0 e1 f0 f1 hHeld
              try simp only [Act.put, List.setIfInBounds_toArray, List.set_cons_zero, List.set_cons_succ]
              have e0 := cell_of_row W17 _ 0 _ 39 (0, 0) OW17.out
              have e1 := cell_of_row W17 _ 1 _ 39 (0, 0) OW17.out
              have f0 := frozen_of_row W17 _ 0 _ 39 OW17.out
              have f1 := frozen_of_row W17 _ 1 _ 39 OW17.out
              simp only [List.getElem?_toArray, List.getElem?_cons_zero, List.getElem?_cons_succ] at e0 e1
              refine wpAnyH_ready (rs := [10]) (by kernel_rfl) (by simp) ?_
              refine AllReadyH.cons (o := ⟨none, _, _, _, _, _⟩) rfl (fun K hK => ?_) AllReadyH.nil
              go_simp
              obtain ⟨W18, hW18⟩ : ∃ V, (W17.setCell ⟨W10.heap.size, 0, none⟩ (.int .i64 b1)).setCell ⟨W10.heap.size, 1, none⟩ (.int .i64 b2) = V := ⟨_, rfl⟩
              rw [hW18]
              have GW18 := Lib.hid (show W18.heap[W10.heap.size]? = some (.cells #[.int .i64 b1, .int .i64 b2] 39 (0, 0)) by rw [← hW18]; exact heap_setCell_same _ _ 1 _ 39 _ (heap_setCell_same _ _ 0 _ 39 _ OW17.out))
              have OW18 := Lib.hid (show W18.heap[V0.heap.size]? = some (.cells #[.int .i64 a1, .int .i64 a2] 39 (0, 0)) by rw [← hW18]; exact (heap_setCell_other _ _ _ _ (by show V0.heap.size ≠ W10.heap.size; omega)).trans ((heap_setCell_other _ _ _ _ (by show V0.heap.size ≠ W10.heap.size; omega)).trans GW17.out))
              have HW18 := Lib.hid (show Below wo.heap.size wo W18 by rw [← hW18]; exact bl_set _ (bl_set _ HW17.out (by omega)) (by omega))
              refine hK.out _ _ (HSK.out _ HW18.out) (fun hHeld => ?_)
              clear hK K hW18 e0 e1 f0 f1 hHeld
              try simp only [Act.put, List.setIfInBounds_toArray, List.set_cons_zero, List.set_cons_succ]
              refine wpAnyH_done (by kernel_rfl) ?_ _
              go_wp2_with fail
              go_meet
              case rel => exact ⟨_, _, rfl, rfl, cell_of_row W18 _ 0 _ 39 (0, 0) OW18.out, cell_of_row W18 _ 1 _ 39 (0, 0) OW18.out, cell_of_row W18 _ 0 _ 39 (0, 0) GW18.out, cell_of_row W18 _ 1 _ 39 (0, 0) GW18.out, HW18.out⟩
        · go_simp
          obtain ⟨W19, hW19⟩ : ∃ V, V0.alloc (.cells #[.int .i64 0, .int .i64 0] 39) = V := ⟨_, rfl⟩
          rw [hW19]
          have hz19 : V0.heap.size < W19.heap.size := by rw [← hW19]; simp
          have HW19 := Lib.hid (show Below wo.heap.size wo W19 by rw [← hW19]; exact bl_alloc _ HV0.out (Nat.le_refl _))
          have g19_8 := Lib.hid (show W19.heap[V0.heap.size]? = some (.cells #[.int .i64 0, .int .i64 0] 39 (0, 0)) by rw [← hW19]; exact heap_alloc_new _ _)
          refine hK.out _ _ (HSK.out _ HW19.out) (fun hHeld => ?_)
          clear hK K hW19 hHeld
          try simp only [Act.put, List.setIfInBounds_toArray, List.set_cons_zero, List.set_cons_succ]
          refine wpAnyH_ready (rs := [6, 7]) (by kernel_rfl) (by simp) ?_
          refine (AllReadyH.cons (o := ⟨some 21, _, _, _, _, _⟩) rfl (fun K hK => ?_) (AllReadyH.cons (o := ⟨some 7, _, _, _, _, _⟩) rfl (fun K hK => ?_) AllReadyH.nil))
          · go_simp
            go_at_call 59
            refine (HNX.out W19 HW19.out).mono ?_
            rintro E W20 ⟨rfl, hb⟩
            have hz20 := hb.size
            have HW20 := Lib.hid (HW19.out.trans (hb.mono HW19.out.size))
            have g20_8 := Lib.hid ((hb.block (V0.heap.size) (by omega)).trans g19_8.out)
            refine hK.out _ _ (HSK.out _ HW20.out) (fun hHeld => ?_)
            clear hK K hb hHeld
            try simp only [Act.put, List.setIfInBounds_toArray, List.set_cons_zero, List.set_cons_succ]
            refine wpAnyH_ready (rs := [7]) (by kernel_rfl) (by simp) ?_
            refine (AllReadyH.cons (o := ⟨some 7, _, _, _, _, _⟩) rfl (fun K hK => ?_) AllReadyH.nil)
            · go_simp
              obtain ⟨W21, hW21⟩ : ∃ V, W20.alloc (.cells #[.int .i64 0, .int .i64 0] 39) = V := ⟨_, rfl⟩
              rw [hW21]
              have hz21 : W20.heap.size < W21.heap.size := by rw [← hW21]; simp
              have HW21 := Lib.hid (show Below wo.heap.size wo W21 by rw [← hW21]; exact bl_alloc _ HW20.out (Nat.le_refl _))
              have g21_8 := Lib.hid (show W21.heap[V0.heap.size]? = some (.cells #[.int .i64 0, .int .i64 0] 39 (0, 0)) by rw [← hW21]; exact (Below.heap_alloc _ _ (V0.heap.size) (by omega)).trans g20_8.out)
              have g21_7 := Lib.hid (show W21.heap[W20.heap.size]? = some (.cells #[.int .i64 0, .int .i64 0] 39 (0, 0)) by rw [← hW21]; exact heap_alloc_new _ _)
              refine hK.out _ _ (HSK.out _ HW21.out) (fun hHeld => ?_)
              clear hK K hW21 hHeld
              try simp only [Act.put, List.setIfInBounds_toArray, List.set_cons_zero, List.set_cons_succ]
              have e0 := cell_of_row W21 _ 0 _ 39 (0, 0) g21_7.out
              have e1 := cell_of_row W21 _ 1 _ 39 (0, 0) g21_7.out
              have f0 := frozen_of_row W21 _ 0 _ 39 g21_7.out
              have f1 := frozen_of_row W21 _ 1 _ 39 g21_7.out
              simp only [List.getElem?_toArray, List.getElem?_cons_zero, List.getElem?_cons_succ] at e0 e1
              refine wpAnyH_ready (rs := [9]) (by kernel_rfl) (by simp) ?_
              refine AllReadyH.cons (o := ⟨none, _, _, _, _, _⟩) rfl (fun K hK => ?_) AllReadyH.nil
              go_simp
              obtain ⟨W22, hW22⟩ : ∃ V, (W21.setCell ⟨W20.heap.size, 0, none⟩ (.int .i64 a1)).setCell ⟨W20.heap.size, 1, none⟩ (.int .i64 a2) = V := ⟨_, rfl⟩
              rw [hW22]
              have GW22 := Lib.hid (show W22.heap[W20.heap.size]? = some (.cells #[.int .i64 a1, .int .i64 a2] 39 (0, 0)) by rw [← hW22]; exact heap_setCell_same _ _ 1 _ 39 _ (heap_setCell_same _ _ 0 _ 39 _ g21_7.out))
              have OW22 := Lib.hid (show W22.heap[V0.heap.size]? = some (.cells #[.int .i64 0, .int .i64 0] 39 (0, 0)) by rw [← hW22]; exact (heap_setCell_other _ _ _ _ (by show V0.heap.size ≠ W20.heap.size; omega)).trans ((heap_setCell_other _ _ _ _ (by show V0.heap.size ≠ W20.heap.size; omega)).trans g21_8.out))
              have HW22 := Lib.hid (show Below wo.heap.size wo W22 by rw [← hW22]; exact bl_set _ (bl_set _ HW21.out (by omega)) (by omega))
              refine hK.out _ _ (HSK.out _ HW22.out) (fun hHeld => ?_)
              clear hK K hW22 e0 e1 f0 f1 hHeld
              try simp only [Act.put, List.setIfInBounds_toArray, List.set_cons_zero, List.set_cons_succ]
              have e0 := cell_of_row W22 _ 0 _ 39 (0, 0) OW22.out
              have e1 := cell_of_row W22 _ 1 _ 39 (0, 0) OW22.out
              have f0 := frozen_of_row W22 _ 0 _ 39 OW22.out
              have f1 := frozen_of_row W22 _ 1 _ 39 OW22.out
              simp only [List.getElem?_toArray, List.getElem?_cons_zero, List.getElem?_cons_succ] at e0 e1
              refine wpAnyH_ready (rs := [10]) (by kernel_rfl) (by simp) ?_
              refine AllReadyH.cons (o := ⟨none, _, _, _, _, _⟩) rfl (fun K hK => ?_) AllReadyH.nil
              go_simp
              obtain ⟨W23, hW23⟩ : ∃ V, (W22.setCell ⟨V0.heap.size, 0, none⟩ (.int .i64 b1)).setCell ⟨V0.heap.size, 1, none⟩ (.int .i64 b2) = V := ⟨_, rfl⟩
              rw [hW23]
              have GW23 := Lib.hid (show W23.heap[V0.heap.size]? = some (.cells #[.int .i64 b1, .int .i64 b2] 39 (0, 0)) by rw [← hW23]; exact heap_setCell_same _ _ 1 _ 39 _ (heap_setCell_same _ _ 0 _ 39 _ OW22.out))
              have OW23 := Lib.hid (show W23.heap[W20.heap.size]? = some (.cells #[.int .i64 a1, .int .i64 a2] 39 (0, 0)) by rw [← hW23]; exact (heap_setCell_other _ _ _ _ (by show W20.heap.size ≠ V0.heap.size; omega)).trans ((heap_setCell_other _ _ _ _ (by show W20.heap.size ≠ V0.heap.size; omega)).trans GW22.out))
              have HW23 := Lib.hid (show Below wo.heap.size wo W23 by rw [← hW23]; exact bl_set _ (bl_set _ HW22.out (by omega)) (by omega))
              refine hK.out _ _ (HSK.out _ HW23.out) (fun hHeld => ?_)
              clear hK K hW23 e0 e1 f0 f1 hHeld
              try simp only [Act.put, List.setIfInBounds_toArray, List.set_cons_zero, List.set_cons_succ]
              refine wpAnyH_done (by kernel_rfl) ?_ _
              go_wp2_with fail
              go_meet
              case rel => exact ⟨_, _, rfl, rfl, cell_of_row W23 _ 0 _ 39 (0, 0) OW23.out, cell_of_row W23 _ 1 _ 39 (0, 0) OW23.out, cell_of_row W23 _ 0 _ 39 (0, 0) GW23.out, cell_of_row W23 _ 1 _ 39 (0, 0) GW23.out, HW23.out⟩
          · go_simp
            obtain ⟨W24, hW24⟩ : ∃ V, W19.alloc (.cells #[.int .i64 0, .int .i64 0] 39) = V := ⟨_, rfl⟩
            rw [hW24]
            have hz24 : W19.heap.size < W24.heap.size := by rw [← hW24]; simp
            have HW24 := Lib.hid (show Below wo.heap.size wo W24 by rw [← hW24]; exact bl_alloc _ HW19.out (Nat.le_refl _))
            have g24_8 := Lib.hid (show W24.heap[V0.heap.size]? = some (.cells #[.int .i64 0, .int .i64 0] 39 (0, 0)) by rw [← hW24]; exact (Below.heap_alloc _ _ (V0.heap.size) (by omega)).trans g19_8.out)
            have g24_7 := Lib.hid (show W24.heap[W19.heap.size]? = some (.cells #[.int .i64 0, .int .i64 0] 39 (0, 0)) by rw [← hW24]; exact heap_alloc_new _ _)
            refine hK.out _ _ (HSK.out _ HW24.out) (fun hHeld => ?_)
            clear hK K hW24 hHeld
            try simp only [Act.put, List.setIfInBounds_toArray, List.set_cons_zero, List.set_cons_succ]
            refine wpAnyH_ready (rs := [6]) (by kernel_rfl) (by simp) ?_
            refine (AllReadyH.cons (o := ⟨some 21, _, _, _, _, _⟩) rfl (fun K hK => ?_) AllReadyH.nil)
            · go_simp
              go_at_call 59
              refine (HNX.out W24 HW24.out).mono ?_
              rintro E W25 ⟨rfl, hb⟩
              have hz25 := hb.size
              have HW25 := Lib.hid (HW24.out.trans (hb.mono HW24.out.size))
              have g25_8 := Lib.hid ((hb.block (V0.heap.size) (by omega)).trans g24_8.out)
              have g25_7 := Lib.hid ((hb.block (W19.heap.size) (by omega)).trans g24_7.out)
              refine hK.out _ _ (HSK.out _ HW25.out) (fun hHeld => ?_)
              clear hK K hb hHeld
              try simp only [Act.put, List.setIfInBounds_toArray, List.set_cons_zero, List.set_cons_succ]
              have e0 := cell_of_row W25 _ 0 _ 39 (0, 0) g25_7.out
              have e1 := cell_of_row W25 _ 1 _ 39 (0, 0) g25_7.out
              have f0 := frozen_of_row W25 _ 0 _ 39 g25_7.out
              have f1 := frozen_of_row W25 _ 1 _ 39 g25_7.out
              simp only [List.getElem?_toArray, List.getElem?_cons_zero, List.getElem?_cons_succ] at e0 e1
              refine wpAnyH_ready (rs := [9]) (by kernel_rfl) (by simp) ?_
              refine AllReadyH.cons (o := ⟨none, _, _, _, _, _⟩) rfl (fun K hK => ?_) AllReadyH.nil
              go_simp
              obtain ⟨W26, hW26⟩ : ∃ V, (W25.setCell ⟨W19.heap.size, 0, none⟩ (.int .i64 a1)).setCell ⟨W19.heap.size, 1, none⟩ (.int .i64 a2) = V := ⟨_, rfl⟩
              rw [hW26]
              have GW26 := Lib.hid (show W26.heap[W19.heap.size]? = some (.cells #[.int .i64 a1, .int .i64 a2] 39 (0, 0)) by rw [← hW26]; exact heap_setCell_same _ _ 1 _ 39 _ (heap_setCell_same _ _ 0 _ 39 _ g25_7.out))
              have OW26 := Lib.hid (show W26.heap[V0.heap.size]? = some (.cells #[.int .i64 0, .int .i64 0] 39 (0, 0)) by rw [← hW26]; exact (heap_setCell_other _ _ _ _ (by show V0.heap.size ≠ W19.heap.size; omega)).trans ((heap_setCell_other _ _ _ _ (by show V0.heap.size ≠ W19.heap.size; omega)).trans g25_8.out))
              have HW26 := Lib.hid (show Below wo.heap.size wo W26 by rw [← hW26]; exact bl_set _ (bl_set _ HW25.out (by omega)) (by omega))
              refine hK.out _ _ (HSK.out _ HW26.out) (fun hHeld => ?_)
              clear hK K hW26 e0 e1 f0 f1 hHeld
              try simp only [Act.put, List.setIfInBounds_toArray, List.set_cons_zero, List.set_cons_succ]
              have e0 := cell_of_row W26 _ 0 _ 39 (0, 0) OW26.out
              have e1 := cell_of_row W26 _ 1 _ 39 (0, 0) OW26.out
              have f0 := frozen_of_row W26 _ 0 _ 39 OW26.out
              have f1 := frozen_of_row W26 _ 1 _ 39 OW26.out
              simp only [List.getElem?_toArray, List.getElem?_cons_zero, List.getElem?_cons_succ] at e0 e1
              refine wpAnyH_ready (rs := [10]) (by kernel_rfl) (by simp) ?_
              refine AllReadyH.cons (o := ⟨none, _, _, _, _, _⟩) rfl (fun K hK => ?_) AllReadyH.nil
              go_simp
              obtain ⟨W27, hW27⟩ : ∃ V, (W26.setCell ⟨V0.heap.size, 0, none⟩ (.int .i64 b1)).setCell ⟨V0.heap.size, 1, none⟩ (.int .i64 b2) = V := ⟨_, rfl⟩
              rw [hW27]
              have GW27 := Lib.hid (show W27.heap[V0.heap.size]? = some (.cells #[.int .i64 b1, .int .i64 b2] 39 (0, 0)) by rw [← hW27]; exact heap_setCell_same _ _ 1 _ 39 _ (heap_setCell_same _ _ 0 _ 39 _ OW26.out))
              have OW27 := Lib.hid (show W27.heap[W19.heap.size]? = some (.cells #[.int .i64 a1, .int .i64 a2] 39 (0, 0)) by rw [← hW27]; exact (heap_setCell_other _ _ _ _ (by show W19.heap.size ≠ V0.heap.size; omega)).trans ((heap_setCell_other _ _ _ _ (by show W19.heap.size ≠ V0.heap.size; omega)).trans GW26.out))
              have HW27 := Lib.hid (show Below wo.heap.size wo W27 by rw [← hW27]; exact bl_set _ (bl_set _ HW26.out (by omega)) (by omega))
              refine hK.out _ _ (HSK.out _ HW27.out) (fun hHeld => ?_)
              clear hK K hW27 e0 e1 f0 f1 hHeld
              try simp only [Act.put, List.setIfInBounds_toArray, List.set_cons_zero, List.set_cons_succ]
              refine wpAnyH_done (by kernel_rfl) ?_ _
              go_wp2_with fail
              go_meet
              case rel => exact ⟨_, _, rfl, rfl, cell_of_row W27 _ 0 _ 39 (0, 0) OW27.out, cell_of_row W27 _ 1 _ 39 (0, 0) OW27.out, cell_of_row W27 _ 0 _ 39 (0, 0) GW27.out, cell_of_row W27 _ 1 _ 39 (0, 0) GW27.out, HW27.out⟩
      case rest =>
        obtain ⟨B, C, rfl, rfl, x0, x1, y0, y1, hbw⟩ := hcut
        have hBl : B < wc.heap.size := World.block_lt_of_cell? wc ⟨B, 0, none⟩ x0
        have hCl : C < wc.heap.size := World.block_lt_of_cell? wc ⟨C, 0, none⟩ y0
        have hgl : g < wc.heap.size := by have := hbw.size; omega
        have HBc := Lib.hid (HB.out.trans (hbw.mono hzr))
        have k0 := (HBc.out.cell (p := ⟨g, 0, none⟩) hl1).trans c0
        have k1 := (HBc.out.cell (p := ⟨g, 1, none⟩) hl1).trans c1
        have hzc : w1.heap.size ≤ wc.heap.size := HBc.out.size
        clear hbw hs0 d0 d1 HSK HW0 HNX c0 c1
        cases on
        · rw [if_neg (by simp)] at HST
          by_cases hA : q2 < a2
          · have eA : decide (q2 < a2) = true := decide_eq_true hA
            have eA' : decide (a2 ≤ q2) = false := decide_eq_false (by omega)
            by_cases hB : q2 < b2
            · have eB : decide (q2 < b2) = true := decide_eq_true hB
              have eB' : decide (b2 ≤ q2) = false := decide_eq_false (by omega)
              rw [eA, eA', eB, eB', if_neg (by simp)] at HST
              have HZ2 := Lib.hid (show pn ≠ 0 by rw [HST.out]; exact HZ.out)
              clear hA hB eA' eB' HTU
              go_wp2_with (go_at_call 80; go_loud (refine (HON.out _).mono ?_; rintro E w4 ⟨rfl, hb4⟩; have u1 := (hb4.cell (p := ⟨B, 1, none⟩) hBl).trans x1; have u2 := (hb4.cell (p := ⟨C, 1, none⟩) hCl).trans y1; have u3 := (hb4.cell (p := ⟨g, 1, none⟩) hgl).trans k1; have HB4 := Lib.hid (HBc.out.trans (hb4.mono hzc)); clear hb4))
              go_roundw
              case rel => exact ⟨k + 1, by omega, by go_num, by rw [HPN.out, HST.out], Lib.hid (by rw [HPN.out]; exact HZ2.out), HB4⟩
              case measure => simp [intOf]; omega
            · have eB : decide (q2 < b2) = false := decide_eq_false hB
              have eB' : decide (b2 ≤ q2) = true := decide_eq_true (by omega)
              have hba : decide (a2 < b2) = false := decide_eq_false (by omega)
              have hab : decide (b2 < a2) = true := decide_eq_true (by omega)
              rw [eA, eA', eB, eB'] at HST
              clear hA hB
              by_cases ht : t < 0
              · have et : decide (t < 0) = true := decide_eq_true ht
                rw [et, if_pos (by simp)] at HST
                have HZ2 := Lib.hid (show pn ≠ 0 by rw [HST.out]; have := HZ.out; omega)
                clear ht
                go_wp2_with (first
                  | (go_at_call 80; go_loud (refine (HON.out _).mono ?_; rintro E w4 ⟨rfl, hb4⟩; have u1 := (hb4.cell (p := ⟨B, 1, none⟩) hBl).trans x1; have u2 := (hb4.cell (p := ⟨C, 1, none⟩) hCl).trans y1; have u3 := (hb4.cell (p := ⟨g, 1, none⟩) hgl).trans k1; have v1 := (hb4.cell (p := ⟨B, 0, none⟩) hBl).trans x0; have v2 := (hb4.cell (p := ⟨C, 0, none⟩) hCl).trans y0; have v3 := (hb4.cell (p := ⟨g, 0, none⟩) hgl).trans k0; have hB4 : B < w4.heap.size := Nat.lt_of_lt_of_le hBl hb4.size; have hC4 : C < w4.heap.size := Nat.lt_of_lt_of_le hCl hb4.size; have HB4 := Lib.hid (HBc.out.trans (hb4.mono hzc)); have hz4 : w1.heap.size ≤ w4.heap.size := HB4.out.size; clear hb4))
                  | (go_at_call 58; go_loud (refine (HTU.out _).mono ?_; rintro E w5 ⟨rfl, hb5⟩; have p1 := (hb5.cell (p := ⟨B, 1, none⟩) hB4).trans u1; have p2 := (hb5.cell (p := ⟨C, 1, none⟩) hC4).trans u2; have HB5 := Lib.hid (HB4.out.trans (hb5.mono hz4)); clear hb5)))
                go_roundw
                case rel => exact ⟨k + 1, by omega, by go_num, by rw [HPN.out, HST.out], Lib.hid (by rw [HPN.out]; exact HZ2.out), HB5⟩
                case measure => simp [intOf]; omega
              · have et : decide (t < 0) = false := decide_eq_false ht
                rw [et, if_neg (by simp)] at HST
                have HZ2 := Lib.hid (show pn ≠ 0 by rw [HST.out]; exact HZ.out)
                clear ht
                go_wp2_with (first
                  | (go_at_call 80; go_loud (refine (HON.out _).mono ?_; rintro E w4 ⟨rfl, hb4⟩; have u1 := (hb4.cell (p := ⟨B, 1, none⟩) hBl).trans x1; have u2 := (hb4.cell (p := ⟨C, 1, none⟩) hCl).trans y1; have u3 := (hb4.cell (p := ⟨g, 1, none⟩) hgl).trans k1; have v1 := (hb4.cell (p := ⟨B, 0, none⟩) hBl).trans x0; have v2 := (hb4.cell (p := ⟨C, 0, none⟩) hCl).trans y0; have v3 := (hb4.cell (p := ⟨g, 0, none⟩) hgl).trans k0; have hB4 : B < w4.heap.size := Nat.lt_of_lt_of_le hBl hb4.size; have hC4 : C < w4.heap.size := Nat.lt_of_lt_of_le hCl hb4.size; have HB4 := Lib.hid (HBc.out.trans (hb4.mono hzc)); have hz4 : w1.heap.size ≤ w4.heap.size := HB4.out.size; clear hb4))
                  | (go_at_call 58; go_loud (refine (HTU.out _).mono ?_; rintro E w5 ⟨rfl, hb5⟩; have p1 := (hb5.cell (p := ⟨B, 1, none⟩) hB4).trans u1; have p2 := (hb5.cell (p := ⟨C, 1, none⟩) hC4).trans u2; have HB5 := Lib.hid (HB4.out.trans (hb5.mono hz4)); clear hb5)))
                go_roundw
                case rel => exact ⟨k + 1, by omega, by go_num, by rw [HPN.out, HST.out], Lib.hid (by rw [HPN.out]; exact HZ2.out), HB5⟩
                case measure => simp [intOf]; omega
          · have eA : decide (q2 < a2) = false := decide_eq_false hA
            have eA' : decide (a2 ≤ q2) = true := decide_eq_true (by omega)
            by_cases hB : q2 < b2
            · have eB : decide (q2 < b2) = true := decide_eq_true hB
              have eB' : decide (b2 ≤ q2) = false := decide_eq_false (by omega)
              have hba : decide (a2 < b2) = true := decide_eq_true (by omega)
              have hab : decide (b2 < a2) = false := decide_eq_false (by omega)
              rw [eA, eA', eB, eB'] at HST
              clear hA hB
              by_cases ht : 0 < t
              · have et : decide (0 < t) = true := decide_eq_true ht
                rw [et, if_pos (by simp)] at HST
                have HZ2 := Lib.hid (show pn ≠ 0 by rw [HST.out]; have := HZ.out; omega)
                clear ht
                go_wp2_with (first
                  | (go_at_call 80; go_loud (refine (HON.out _).mono ?_; rintro E w4 ⟨rfl, hb4⟩; have u1 := (hb4.cell (p := ⟨B, 1, none⟩) hBl).trans x1; have u2 := (hb4.cell (p := ⟨C, 1, none⟩) hCl).trans y1; have u3 := (hb4.cell (p := ⟨g, 1, none⟩) hgl).trans k1; have v1 := (hb4.cell (p := ⟨B, 0, none⟩) hBl).trans x0; have v2 := (hb4.cell (p := ⟨C, 0, none⟩) hCl).trans y0; have v3 := (hb4.cell (p := ⟨g, 0, none⟩) hgl).trans k0; have hB4 : B < w4.heap.size := Nat.lt_of_lt_of_le hBl hb4.size; have hC4 : C < w4.heap.size := Nat.lt_of_lt_of_le hCl hb4.size; have HB4 := Lib.hid (HBc.out.trans (hb4.mono hzc)); have hz4 : w1.heap.size ≤ w4.heap.size := HB4.out.size; clear hb4))
                  | (go_at_call 58; go_loud (refine (HTU.out _).mono ?_; rintro E w5 ⟨rfl, hb5⟩; have p1 := (hb5.cell (p := ⟨B, 1, none⟩) hB4).trans u1; have p2 := (hb5.cell (p := ⟨C, 1, none⟩) hC4).trans u2; have HB5 := Lib.hid (HB4.out.trans (hb5.mono hz4)); clear hb5)))
                go_roundw
                case rel => exact ⟨k + 1, by omega, by go_num, by rw [HPN.out, HST.out], Lib.hid (by rw [HPN.out]; exact HZ2.out), HB5⟩
                case measure => simp [intOf]; omega
              · have et : decide (0 < t) = false := decide_eq_false ht
                rw [et, if_neg (by simp)] at HST
                have HZ2 := Lib.hid (show pn ≠ 0 by rw [HST.out]; exact HZ.out)
                clear ht
                go_wp2_with (first
                  | (go_at_call 80; go_loud (refine (HON.out _).mono ?_; rintro E w4 ⟨rfl, hb4⟩; have u1 := (hb4.cell (p := ⟨B, 1, none⟩) hBl).trans x1; have u2 := (hb4.cell (p := ⟨C, 1, none⟩) hCl).trans y1; have u3 := (hb4.cell (p := ⟨g, 1, none⟩) hgl).trans k1; have v1 := (hb4.cell (p := ⟨B, 0, none⟩) hBl).trans x0; have v2 := (hb4.cell (p := ⟨C, 0, none⟩) hCl).trans y0; have v3 := (hb4.cell (p := ⟨g, 0, none⟩) hgl).trans k0; have hB4 : B < w4.heap.size := Nat.lt_of_lt_of_le hBl hb4.size; have hC4 : C < w4.heap.size := Nat.lt_of_lt_of_le hCl hb4.size; have HB4 := Lib.hid (HBc.out.trans (hb4.mono hzc)); have hz4 : w1.heap.size ≤ w4.heap.size := HB4.out.size; clear hb4))
                  | (go_at_call 58; go_loud (refine (HTU.out _).mono ?_; rintro E w5 ⟨rfl, hb5⟩; have p1 := (hb5.cell (p := ⟨B, 1, none⟩) hB4).trans u1; have p2 := (hb5.cell (p := ⟨C, 1, none⟩) hC4).trans u2; have HB5 := Lib.hid (HB4.out.trans (hb5.mono hz4)); clear hb5)))
                go_roundw
                case rel => exact ⟨k + 1, by omega, by go_num, by rw [HPN.out, HST.out], Lib.hid (by rw [HPN.out]; exact HZ2.out), HB5⟩
                case measure => simp [intOf]; omega
            · have eB : decide (q2 < b2) = false := decide_eq_false hB
              have eB' : decide (b2 ≤ q2) = true := decide_eq_true (by omega)
              rw [eA, eA', eB, eB', if_neg (by simp)] at HST
              have HZ2 := Lib.hid (show pn ≠ 0 by rw [HST.out]; exact HZ.out)
              clear hA hB eA' eB' HTU
              go_wp2_with (go_at_call 80; go_loud (refine (HON.out _).mono ?_; rintro E w4 ⟨rfl, hb4⟩; have u1 := (hb4.cell (p := ⟨B, 1, none⟩) hBl).trans x1; have u2 := (hb4.cell (p := ⟨C, 1, none⟩) hCl).trans y1; have u3 := (hb4.cell (p := ⟨g, 1, none⟩) hgl).trans k1; have HB4 := Lib.hid (HBc.out.trans (hb4.mono hzc)); clear hb4))
              go_roundw
              case rel => exact ⟨k + 1, by omega, by go_num, by rw [HPN.out, HST.out], Lib.hid (by rw [HPN.out]; exact HZ2.out), HB4⟩
              case measure => simp [intOf]; omega
        · rw [if_pos rfl] at HST
          have HR := HL0.out HST.out
          have HRR := Lib.hid HR
          clear HR HTU
          go_wp2_with (go_at_call 80; go_loud (refine (HON.out _).mono ?_; rintro E w4 ⟨rfl, hb4⟩; have HB4 := Lib.hid (HB1.out.trans ((HBc.out.trans (hb4.mono hzc)).mono HB1.out.size)); clear hb4))
          go_ret
          exact ⟨by rw [HRR.out]; rfl, by first | exact HB4.out | (rw [← HG.out]; exact HB4.out)⟩
    · obtain rfl : n = k := by omega
      go_wp2
      go_ret
      refine ⟨rfl, ?_⟩
      first | exact HB1.out.trans (HB.out.mono HB1.out.size) | (rw [← HG.out]; exact HB1.out.trans (HB.out.mono HB1.out.size))
end Go.Proofs.Ytdmecagdjbjgjaa
