/- Package polygon: edges that cross. -/
import Derived.Test.YtdmecagdjbjgjaaR2
namespace Go.Proofs.Ytdmecagdjbjgjaa
open Go.RowKit

def crI (a b c d e f g h : Int) : Bool := decide (trI a b c d e f * trI a b c d g h < 0) && decide (trI e f g h a b * trI e f g h c d < 0)
theorem pm_bd {x y : Int} (hx : -1 ≤ x ∧ x ≤ 1) (hy : -1 ≤ y ∧ y ≤ 1) : IntKind.i64.wrap (x * y) = x * y := IntWalk.i64_in _ (by have := mul_bd (m := 1) hx hy; omega)
set_option maxRecDepth 100000 in
set_option maxHeartbeats 8000000 in
theorem crosses_any (a b c d e f g h : Int) (w : World) (h1 : Bd 1000000 a) (h2 : Bd 1000000 b) (h3 : Bd 1000000 c) (h4 : Bd 1000000 d) (h5 : Bd 1000000 e) (h6 : Bd 1000000 f) (h7 : Bd 1000000 g) (h8 : Bd 1000000 h) :
    Calls Try.prog 79 #[.agg #[.int .i64 a, .int .i64 b], .agg #[.int .i64 c, .int .i64 d], .agg #[.int .i64 e, .int .i64 f], .agg #[.int .i64 g, .int .i64 h]] w fun E w' => E = .returned (.bool (crI a b c d e f g h)) ∧ Below w.heap.size w w' := by
  have HK := Lib.hid (And.intro h1 (And.intro h2 (And.intro h3 (And.intro h4 (And.intro h5 (And.intro h6 (And.intro h7 h8)))))))
  have HT := Lib.hid (fun W a b c d e f h1 h2 h3 h4 h5 h6 => Turn_any a b c d e f W h1 h2 h3 h4 h5 h6)
  have hw1 := pm_bd (trI_bd a b c d e f) (trI_bd a b c d g h)
  have hw2 := pm_bd (trI_bd e f g h a b) (trI_bd e f g h c d)
  have HR : Hid (crI a b c d e f g h = (decide (trI a b c d e f * trI a b c d g h < 0) && decide (trI e f g h a b * trI e f g h c d < 0))) := Lib.hid rfl
  clear h1 h2 h3 h4 h5 h6 h7 h8
  generalize crI a b c d e f g h = r at *
  obtain ⟨u0, hw0⟩ : ∃ W, w.alloc (.cells #[.int .i64 a, .int .i64 b] 39) = W := ⟨_, rfl⟩
  obtain ⟨u1, hw1⟩ : ∃ W, u0.alloc (.cells #[.int .i64 c, .int .i64 d] 39) = W := ⟨_, rfl⟩
  obtain ⟨u2, hw2⟩ : ∃ W, u1.alloc (.cells #[.int .i64 e, .int .i64 f] 39) = W := ⟨_, rfl⟩
  obtain ⟨w3, hw3⟩ : ∃ W, u2.alloc (.cells #[.int .i64 g, .int .i64 h] 39) = W := ⟨_, rfl⟩
  obtain ⟨g0, hg0⟩ : ∃ g, w.heap.size = g := ⟨_, rfl⟩
  obtain ⟨g1, hg1⟩ : ∃ g, u0.heap.size = g := ⟨_, rfl⟩
  obtain ⟨g2, hg2⟩ : ∃ g, u1.heap.size = g := ⟨_, rfl⟩
  obtain ⟨g3, hg3⟩ : ∃ g, u2.heap.size = g := ⟨_, rfl⟩
  have hbx0 : Below w.heap.size w u0 := by rw [← hw0]; exact (Below.refl _ _).alloc (Nat.le_refl _) _
  have hsx0 : u0.heap.size = w.heap.size + 1 := by rw [← hw0]; simp
  have hbx1 : Below u0.heap.size u0 u1 := by rw [← hw1]; exact (Below.refl _ _).alloc (Nat.le_refl _) _
  have hsx1 : u1.heap.size = u0.heap.size + 1 := by rw [← hw1]; simp
  have hbx2 : Below u1.heap.size u1 u2 := by rw [← hw2]; exact (Below.refl _ _).alloc (Nat.le_refl _) _
  have hsx2 : u2.heap.size = u1.heap.size + 1 := by rw [← hw2]; simp
  have hbx3 : Below u2.heap.size u2 w3 := by rw [← hw3]; exact (Below.refl _ _).alloc (Nat.le_refl _) _
  have hsx3 : w3.heap.size = u2.heap.size + 1 := by rw [← hw3]; simp
  have hbw : Below w.heap.size w w3 := ((hbx0.trans (hbx1.mono hbx0.size)).trans (hbx2.mono (by omega))).trans (hbx3.mono (by omega))
  have hx0 : u0.heap[w.heap.size]? = some (.cells #[.int .i64 a, .int .i64 b] 39 (0, 0)) := by rw [← hw0]; exact heap_alloc_new _ _
  have hy0 : w3.heap[w.heap.size]? = some (.cells #[.int .i64 a, .int .i64 b] 39 (0, 0)) := (hbx3.block w.heap.size (by omega)).trans ((hbx2.block w.heap.size (by omega)).trans ((hbx1.block w.heap.size (by omega)).trans (hx0)))
  have hc00 : w3.cell? ⟨w.heap.size, 0, none⟩ = some (.int .i64 a) := cell_of_row w3 _ 0 _ 39 (0, 0) hy0
  have hc01 : w3.cell? ⟨w.heap.size, 1, none⟩ = some (.int .i64 b) := cell_of_row w3 _ 1 _ 39 (0, 0) hy0
  have hl0 : w.heap.size < w3.heap.size := by omega
  have hx1 : u1.heap[u0.heap.size]? = some (.cells #[.int .i64 c, .int .i64 d] 39 (0, 0)) := by rw [← hw1]; exact heap_alloc_new _ _
  have hy1 : w3.heap[u0.heap.size]? = some (.cells #[.int .i64 c, .int .i64 d] 39 (0, 0)) := (hbx3.block u0.heap.size (by omega)).trans ((hbx2.block u0.heap.size (by omega)).trans (hx1))
  have hc10 : w3.cell? ⟨u0.heap.size, 0, none⟩ = some (.int .i64 c) := cell_of_row w3 _ 0 _ 39 (0, 0) hy1
  have hc11 : w3.cell? ⟨u0.heap.size, 1, none⟩ = some (.int .i64 d) := cell_of_row w3 _ 1 _ 39 (0, 0) hy1
  have hl1 : u0.heap.size < w3.heap.size := by omega
  have hx2 : u2.heap[u1.heap.size]? = some (.cells #[.int .i64 e, .int .i64 f] 39 (0, 0)) := by rw [← hw2]; exact heap_alloc_new _ _
  have hy2 : w3.heap[u1.heap.size]? = some (.cells #[.int .i64 e, .int .i64 f] 39 (0, 0)) := (hbx3.block u1.heap.size (by omega)).trans (hx2)
  have hc20 : w3.cell? ⟨u1.heap.size, 0, none⟩ = some (.int .i64 e) := cell_of_row w3 _ 0 _ 39 (0, 0) hy2
  have hc21 : w3.cell? ⟨u1.heap.size, 1, none⟩ = some (.int .i64 f) := cell_of_row w3 _ 1 _ 39 (0, 0) hy2
  have hl2 : u1.heap.size < w3.heap.size := by omega
  have hx3 : w3.heap[u2.heap.size]? = some (.cells #[.int .i64 g, .int .i64 h] 39 (0, 0)) := by rw [← hw3]; exact heap_alloc_new _ _
  have hy3 : w3.heap[u2.heap.size]? = some (.cells #[.int .i64 g, .int .i64 h] 39 (0, 0)) := hx3
  have hc30 : w3.cell? ⟨u2.heap.size, 0, none⟩ = some (.int .i64 g) := cell_of_row w3 _ 0 _ 39 (0, 0) hy3
  have hc31 : w3.cell? ⟨u2.heap.size, 1, none⟩ = some (.int .i64 h) := cell_of_row w3 _ 1 _ 39 (0, 0) hy3
  have hl3 : u2.heap.size < w3.heap.size := by omega
  clear hx0 hy0 hbx0 hx1 hy1 hbx1 hx2 hy2 hbx2 hx3 hy3 hbx3
  rw [hg0] at hc00 hc01 hl0
  rw [hg1] at hc10 hc11 hl1
  rw [hg2] at hc20 hc21 hl2
  rw [hg3] at hc30 hc31 hl3
  have hs0 : Below w3.heap.size w3 w3.drew ∧ w3.drew.cell? ⟨g0, 0, none⟩ = some (.int .i64 a) ∧ w3.drew.cell? ⟨g0, 1, none⟩ = some (.int .i64 b) ∧ w3.drew.cell? ⟨g1, 0, none⟩ = some (.int .i64 c) ∧ w3.drew.cell? ⟨g1, 1, none⟩ = some (.int .i64 d) ∧ w3.drew.cell? ⟨g2, 0, none⟩ = some (.int .i64 e) ∧ w3.drew.cell? ⟨g2, 1, none⟩ = some (.int .i64 f) ∧ w3.drew.cell? ⟨g3, 0, none⟩ = some (.int .i64 g) ∧ w3.drew.cell? ⟨g3, 1, none⟩ = some (.int .i64 h) := ⟨(Below.refl _ _).drew, hc00, hc01, hc10, hc11, hc20, hc21, hc30, hc31⟩
  have HBW := Lib.hid hbw
  clear hbw hsx0 hsx1 hsx2 hsx3
  obtain ⟨q, hqd, HQ⟩ : ∃ q : Bool, decide (trI a b c d e f * trI a b c d g h < 0) = q ∧ Hid (decide (trI a b c d e f * trI a b c d g h < 0) = q) := ⟨_, rfl, Lib.hid rfl⟩
  cases q
  · go_enter Try.func79, Try.ntmps79
    go_wp2
    refine wp_region_held_drew (S := (fun W => Below w3.heap.size w3 W ∧ W.cell? ⟨g0, 0, none⟩ = some (.int .i64 a) ∧ W.cell? ⟨g0, 1, none⟩ = some (.int .i64 b) ∧ W.cell? ⟨g1, 0, none⟩ = some (.int .i64 c) ∧ W.cell? ⟨g1, 1, none⟩ = some (.int .i64 d) ∧ W.cell? ⟨g2, 0, none⟩ = some (.int .i64 e) ∧ W.cell? ⟨g2, 1, none⟩ = some (.int .i64 f) ∧ W.cell? ⟨g3, 0, none⟩ = some (.int .i64 g) ∧ W.cell? ⟨g3, 1, none⟩ = some (.int .i64 h))) (by kernel_rfl) hs0 (fun hHeld => ?_)
    refine wpAnyH_take (i := 0) (oi := ⟨some 9, _, _, _, _, _⟩) (v := ?v0) rfl (by kernel_rfl) (by kernel_rfl) (by kernel_rfl) (fun _ _ _ h => h) (Or.inl ⟨by rfl, ?y0⟩) hHeld ?r0
    case y0 => (intro W hSw; (try dsimp only at hSw); go_simp; try with_reducible rfl)
    try simp only [Act.put, List.setIfInBounds_toArray, List.set_cons_zero, List.set_cons_succ]
    refine wpAnyH_take (i := 1) (oi := ⟨some 10, _, _, _, _, _⟩) (v := ?v1) rfl (by kernel_rfl) (by kernel_rfl) (by kernel_rfl) (fun _ _ _ h => h) (Or.inl ⟨by rfl, ?y1⟩) hHeld ?r1
    case y1 => (intro W hSw; (try dsimp only at hSw); go_simp; try with_reducible rfl)
    try simp only [Act.put, List.setIfInBounds_toArray, List.set_cons_zero, List.set_cons_succ]
    refine wpAnyH_take (i := 2) (oi := ⟨some 11, _, _, _, _, _⟩) (v := ?v2) rfl (by kernel_rfl) (by kernel_rfl) (by kernel_rfl) (fun _ _ _ h => h) (Or.inl ⟨by rfl, ?y2⟩) hHeld ?r2
    case y2 => (intro W hSw; (try dsimp only at hSw); go_simp; try with_reducible rfl)
    try simp only [Act.put, List.setIfInBounds_toArray, List.set_cons_zero, List.set_cons_succ]
    refine wpAnyH_take (i := 4) (oi := ⟨some 13, _, _, _, _, _⟩) (v := ?v4) rfl (by kernel_rfl) (by kernel_rfl) (by kernel_rfl) (fun _ _ _ h => h) (Or.inl ⟨by rfl, ?y4⟩) hHeld ?r4
    case y4 => (intro W hSw; (try dsimp only at hSw); go_simp; try with_reducible rfl)
    try simp only [Act.put, List.setIfInBounds_toArray, List.set_cons_zero, List.set_cons_succ]
    refine wpAnyH_take (i := 5) (oi := ⟨some 14, _, _, _, _, _⟩) (v := ?v5) rfl (by kernel_rfl) (by kernel_rfl) (by kernel_rfl) (fun _ _ _ h => h) (Or.inl ⟨by rfl, ?y5⟩) hHeld ?r5
    case y5 => (intro W hSw; (try dsimp only at hSw); go_simp; try with_reducible rfl)
    try simp only [Act.put, List.setIfInBounds_toArray, List.set_cons_zero, List.set_cons_succ]
    refine wpAnyH_take (i := 6) (oi := ⟨some 15, _, _, _, _, _⟩) (v := ?v6) rfl (by kernel_rfl) (by kernel_rfl) (by kernel_rfl) (fun _ _ _ h => h) (Or.inl ⟨by rfl, ?y6⟩) hHeld ?r6
    case y6 => (intro W hSw; (try dsimp only at hSw); go_simp; try with_reducible rfl)
    try simp only [Act.put, List.setIfInBounds_toArray, List.set_cons_zero, List.set_cons_succ]
    refine wpAnyH_ready (rs := [3]) (by kernel_rfl) (by simp) ?_
    refine AllReadyH.cons (o := ⟨some 12, _, _, _, _, _⟩) rfl (fun K hK => ?_) AllReadyH.nil
    go_simp
    (go_at_call 58; go_loud (refine (HT.out _ _ _ _ _ _ _ (by have := HK.out; omega) (by have := HK.out; omega) (by have := HK.out; omega) (by have := HK.out; omega) (by have := HK.out; omega) (by have := HK.out; omega)).mono ?_; rintro E w1 ⟨rfl, hb1⟩))
    refine hK.out _ _ (k4_below (by assumption) hl0 hl1 hl2 hl3 hHeld) (fun hHeld => ?_)
    clear hK K
    try simp only [Act.put, List.setIfInBounds_toArray, List.set_cons_zero, List.set_cons_succ]
    refine wpAnyH_ready (rs := [7]) (by kernel_rfl) (by simp) ?_
    refine AllReadyH.cons (o := ⟨some 16, _, _, _, _, _⟩) rfl (fun K hK => ?_) AllReadyH.nil
    go_simp
    (go_at_call 58; go_loud (refine (HT.out _ _ _ _ _ _ _ (by have := HK.out; omega) (by have := HK.out; omega) (by have := HK.out; omega) (by have := HK.out; omega) (by have := HK.out; omega) (by have := HK.out; omega)).mono ?_; rintro E w1 ⟨rfl, hb1⟩))
    refine hK.out _ _ (k4_below (by assumption) hl0 hl1 hl2 hl3 hHeld) (fun hHeld => ?_)
    clear hK K
    try simp only [Act.put, List.setIfInBounds_toArray, List.set_cons_zero, List.set_cons_succ]
    refine wpAnyH_take (i := 8) (oi := ⟨some 17, _, _, _, _, _⟩) (v := ?v8) rfl (by kernel_rfl) (by kernel_rfl) (by kernel_rfl) (fun _ _ _ h => h) (Or.inl ⟨by rfl, ?y8⟩) hHeld ?r8
    case y8 => (intro W hSw; (try dsimp only at hSw); go_simp; try with_reducible rfl)
    try simp only [Act.put, List.setIfInBounds_toArray, List.set_cons_zero, List.set_cons_succ]
    refine wpAnyH_take (i := 9) (oi := ⟨some 18, _, _, _, _, _⟩) (v := ?v9) rfl (by kernel_rfl) (by kernel_rfl) (by kernel_rfl) (fun _ _ _ h => h) (Or.inl ⟨by rfl, ?y9⟩) hHeld ?r9
    case y9 => (intro W hSw; (try dsimp only at hSw); go_simp; try with_reducible rfl)
    try simp only [Act.put, List.setIfInBounds_toArray, List.set_cons_zero, List.set_cons_succ]
    refine wpAnyH_take (i := 10) (oi := ⟨some 19, _, _, _, _, _⟩) (v := ?v10) rfl (by kernel_rfl) (by kernel_rfl) (by kernel_rfl) (fun _ _ _ h => h) (Or.inl ⟨by rfl, ?y10⟩) hHeld ?r10
    case y10 => (intro W hSw; (try dsimp only at hSw); go_simp; try with_reducible rfl)
    try simp only [Act.put, List.setIfInBounds_toArray, List.set_cons_zero, List.set_cons_succ]
    refine wpAnyH_take (i := 11) (oi := ⟨some 20, _, _, _, _, _⟩) (v := undef) rfl (by kernel_rfl) (by kernel_rfl) (by kernel_rfl) (fun _ _ _ h => h) (Or.inr ⟨by rfl, rfl⟩) hHeld ?_
    try simp only [Act.put, List.setIfInBounds_toArray, List.set_cons_zero, List.set_cons_succ]
    refine wpAnyH_take (i := 12) (oi := ⟨some 21, _, _, _, _, _⟩) (v := undef) rfl (by kernel_rfl) (by kernel_rfl) (by kernel_rfl) (fun _ _ _ h => h) (Or.inr ⟨by rfl, rfl⟩) hHeld ?_
    try simp only [Act.put, List.setIfInBounds_toArray, List.set_cons_zero, List.set_cons_succ]
    refine wpAnyH_take (i := 13) (oi := ⟨some 22, _, _, _, _, _⟩) (v := undef) rfl (by kernel_rfl) (by kernel_rfl) (by kernel_rfl) (fun _ _ _ h => h) (Or.inr ⟨by rfl, rfl⟩) hHeld ?_
    try simp only [Act.put, List.setIfInBounds_toArray, List.set_cons_zero, List.set_cons_succ]
    refine wpAnyH_take (i := 14) (oi := ⟨some 23, _, _, _, _, _⟩) (v := undef) rfl (by kernel_rfl) (by kernel_rfl) (by kernel_rfl) (fun _ _ _ h => h) (Or.inr ⟨by rfl, rfl⟩) hHeld ?_
    try simp only [Act.put, List.setIfInBounds_toArray, List.set_cons_zero, List.set_cons_succ]
    refine wpAnyH_take (i := 15) (oi := ⟨some 24, _, _, _, _, _⟩) (v := undef) rfl (by kernel_rfl) (by kernel_rfl) (by kernel_rfl) (fun _ _ _ h => h) (Or.inr ⟨by rfl, rfl⟩) hHeld ?_
    try simp only [Act.put, List.setIfInBounds_toArray, List.set_cons_zero, List.set_cons_succ]
    refine wpAnyH_take (i := 16) (oi := ⟨some 25, _, _, _, _, _⟩) (v := undef) rfl (by kernel_rfl) (by kernel_rfl) (by kernel_rfl) (fun _ _ _ h => h) (Or.inr ⟨by rfl, rfl⟩) hHeld ?_
    try simp only [Act.put, List.setIfInBounds_toArray, List.set_cons_zero, List.set_cons_succ]
    refine wpAnyH_take (i := 17) (oi := ⟨some 26, _, _, _, _, _⟩) (v := undef) rfl (by kernel_rfl) (by kernel_rfl) (by kernel_rfl) (fun _ _ _ h => h) (Or.inr ⟨by rfl, rfl⟩) hHeld ?_
    try simp only [Act.put, List.setIfInBounds_toArray, List.set_cons_zero, List.set_cons_succ]
    refine wpAnyH_take (i := 18) (oi := ⟨some 27, _, _, _, _, _⟩) (v := undef) rfl (by kernel_rfl) (by kernel_rfl) (by kernel_rfl) (fun _ _ _ h => h) (Or.inr ⟨by rfl, rfl⟩) hHeld ?_
    try simp only [Act.put, List.setIfInBounds_toArray, List.set_cons_zero, List.set_cons_succ]
    refine wpAnyH_take (i := 19) (oi := ⟨some 28, _, _, _, _, _⟩) (v := undef) rfl (by kernel_rfl) (by kernel_rfl) (by kernel_rfl) (fun _ _ _ h => h) (Or.inr ⟨by rfl, rfl⟩) hHeld ?_
    try simp only [Act.put, List.setIfInBounds_toArray, List.set_cons_zero, List.set_cons_succ]
    refine wpAnyH_take (i := 20) (oi := ⟨some 29, _, _, _, _, _⟩) (v := undef) rfl (by kernel_rfl) (by kernel_rfl) (by kernel_rfl) (fun _ _ _ h => h) (Or.inr ⟨by rfl, rfl⟩) hHeld ?_
    try simp only [Act.put, List.setIfInBounds_toArray, List.set_cons_zero, List.set_cons_succ]
    refine wpAnyH_take (i := 21) (oi := ⟨some 30, _, _, _, _, _⟩) (v := ?v21) rfl (by kernel_rfl) (by kernel_rfl) (by kernel_rfl) (fun _ _ _ h => h) (Or.inl ⟨by rfl, ?y21⟩) hHeld ?r21
    case y21 => (intro W hSw; (try dsimp only at hSw); go_simp; try with_reducible rfl)
    try simp only [Act.put, List.setIfInBounds_toArray, List.set_cons_zero, List.set_cons_succ]
    refine wpAnyH_take (i := 22) (oi := ⟨some 8, _, _, _, _, _⟩) (v := ?v22) rfl (by kernel_rfl) (by kernel_rfl) (by kernel_rfl) (fun _ _ _ h => h) (Or.inl ⟨by rfl, ?y22⟩) hHeld ?r22
    case y22 => (intro W hSw; (try dsimp only at hSw); go_simp; try with_reducible rfl)
    try simp only [Act.put, List.setIfInBounds_toArray, List.set_cons_zero, List.set_cons_succ]
    refine wpAnyH_done (by kernel_rfl) ?_ _
    go_wp2
    go_ret
    refine ⟨ret_bool (by rw [HR.out]; simp [HQ.out]), ?_⟩
    first
      | exact k4_out HBW.out (by assumption)
      | (rw [← hg0]; exact k4_out HBW.out (by assumption))
  · go_enter Try.func79, Try.ntmps79
    go_wp2
    go_region_held3 (fun W => Below w3.heap.size w3 W ∧ W.cell? ⟨g0, 0, none⟩ = some (.int .i64 a) ∧ W.cell? ⟨g0, 1, none⟩ = some (.int .i64 b) ∧ W.cell? ⟨g1, 0, none⟩ = some (.int .i64 c) ∧ W.cell? ⟨g1, 1, none⟩ = some (.int .i64 d) ∧ W.cell? ⟨g2, 0, none⟩ = some (.int .i64 e) ∧ W.cell? ⟨g2, 1, none⟩ = some (.int .i64 f) ∧ W.cell? ⟨g3, 0, none⟩ = some (.int .i64 g) ∧ W.cell? ⟨g3, 1, none⟩ = some (.int .i64 h)) (first | assumption | exact k4_below (by assumption) hl0 hl1 hl2 hl3 (by assumption)) ((go_at_call 58; go_loud (refine (HT.out _ _ _ _ _ _ _ (by have := HK.out; omega) (by have := HK.out; omega) (by have := HK.out; omega) (by have := HK.out; omega) (by have := HK.out; omega) (by have := HK.out; omega)).mono ?_; rintro E w1 ⟨rfl, hb1⟩)))
    go_wp2
    all_goals
      go_ret
      refine ⟨ret_bool (by rw [HR.out]; simp [HQ.out]), ?_⟩
      first
        | exact k4_out HBW.out (by assumption)
        | (rw [← hg0]; exact k4_out HBW.out (by assumption))
end Go.Proofs.Ytdmecagdjbjgjaa
