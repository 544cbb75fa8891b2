/- Package screen: the walk of ScreenScaled. -/
import Derived.Test.YtlkdjnmehnibmaaA6
namespace Go.Proofs.Ytlkdjnmehnibmaa
open Go.RowKit

theorem mul_bd {n x : Int} (h : 1 ≤ n ∧ n ≤ 9) (hx : -90000 ≤ x ∧ x ≤ 90000) : -1000000 ≤ n * x ∧ n * x ≤ 1000000 := by
  obtain rfl | rfl | rfl | rfl | rfl | rfl | rfl | rfl | rfl : n = 1 ∨ n = 2 ∨ n = 3 ∨ n = 4 ∨ n = 5 ∨ n = 6 ∨ n = 7 ∨ n = 8 ∨ n = 9 := by omega
  all_goals omega
theorem mul_sc {n x : Int} (h : 1 ≤ n ∧ n ≤ 9) (hx : 1 ≤ x ∧ x ≤ 5000) : 1 ≤ n * x ∧ n * x ≤ 50000 := by
  obtain rfl | rfl | rfl | rfl | rfl | rfl | rfl | rfl | rfl : n = 1 ∨ n = 2 ∨ n = 3 ∨ n = 4 ∨ n = 5 ∨ n = 6 ∨ n = 7 ∨ n = 8 ∨ n = 9 := by omega
  all_goals omega
set_option maxRecDepth 100000 in
set_option maxHeartbeats 8000000 in
theorem SScaled_any (cx cy sc wd ht x y n : Int) (w : World) :
    Calls Try.prog 3 #[.agg #[.int .i64 cx, .int .i64 cy, .int .i64 sc, .int .i64 wd, .int .i64 ht], .agg #[.int .i64 x, .int .i64 y], .int .i64 n] w fun e w' => e = .returned (.bool true) ∧ Below w.heap.size w w' := by
  have N1 := cutI_bd (n := n) (show (1 : Int) ≤ 9 by decide)
  have N2 := cutI_bd (n := sc) (show (1 : Int) ≤ 5000 by decide)
  have N3 := cutI_bd (n := cx) (show (-90000 : Int) ≤ 90000 by decide)
  have N4 := cutI_bd (n := cy) (show (-90000 : Int) ≤ 90000 by decide)
  have N5 := cutI_bd (n := x) (show (-90000 : Int) ≤ 90000 by decide)
  have N6 := cutI_bd (n := y) (show (-90000 : Int) ≤ 90000 by decide)
  have C1 := Lib.hid (fun W => Cut_any n 1 9 W (by omega) (by omega) (by omega))
  have C2 := Lib.hid (fun W => Cut_any sc 1 5000 W (by omega) (by omega) (by omega))
  have C3 := Lib.hid (fun W => Cut_any cx (-90000) 90000 W (by omega) (by omega) (by omega))
  have C4 := Lib.hid (fun W => Cut_any cy (-90000) 90000 W (by omega) (by omega) (by omega))
  have C5 := Lib.hid (fun W => Cut_any x (-90000) 90000 W (by omega) (by omega) (by omega))
  have C6 := Lib.hid (fun W => Cut_any y (-90000) 90000 W (by omega) (by omega) (by omega))
  generalize cutI n 1 9 = n' at *
  generalize cutI sc 1 5000 = s' at *
  generalize cutI cx (-90000) 90000 = x0 at *
  generalize cutI cy (-90000) 90000 = y0 at *
  generalize cutI x (-90000) 90000 = x1 at *
  generalize cutI y (-90000) 90000 = y1 at *
  have tok1 : True := trivial
  have tok2 : True := trivial
  have tok3 : True := trivial
  have tok4 : True := trivial
  have tok5 : True := trivial
  go_enter Try.func3, Try.ntmps3
  go_wp2_with (first
    | (go_at_call 8; have _t := tok1; go_loud ((with_reducible refine (C1.out _).mono ?_); rintro e w5 ⟨rfl, rfl⟩; clear tok1))
    | (go_at_call 8; have _t := tok2; go_loud ((with_reducible refine (C2.out _).mono ?_); rintro e w5 ⟨rfl, rfl⟩; clear tok2)))
  obtain ⟨W0, hW0, gv, gp, hb0⟩ : ∃ W0, (w.alloc (.cells #[.int .i64 cx, .int .i64 cy, .int .i64 s', .int .i64 wd, .int .i64 ht] 25)).alloc (.cells #[.int .i64 x, .int .i64 y] 23) = W0 ∧ W0.heap[w.heap.size]? = some (.cells #[.int .i64 cx, .int .i64 cy, .int .i64 s', .int .i64 wd, .int .i64 ht] 25 (0, 0)) ∧ W0.heap[w.heap.size + 1]? = some (.cells #[.int .i64 x, .int .i64 y] 23 (0, 0)) ∧ Below w.heap.size w W0 :=
    ⟨_, rfl, (Below.heap_alloc _ _ w.heap.size (by simp)).trans (heap_alloc_new w _), by have := heap_alloc_new (w.alloc (.cells #[.int .i64 cx, .int .i64 cy, .int .i64 s', .int .i64 wd, .int .i64 ht] 25)) (.cells #[.int .i64 x, .int .i64 y] 23); simpa using this, ((Below.refl _ w).alloc (Nat.le_refl _) _).alloc (by simp) _⟩
  rw [hW0]
  clear hW0
  have hb0' := hb0.size
  generalize hv : w.heap.size = v at *
  have v0 := cell_of_row W0 v 0 _ 25 (0, 0) gv
  have v1 := cell_of_row W0 v 1 _ 25 (0, 0) gv
  have f0 := frozen_of_row W0 v 0 _ 25 gv
  have f1 := frozen_of_row W0 v 1 _ 25 gv
  refine wp_region_still_tail 10 (by kernel_rfl) (by kernel_rfl) ?_
  simp only [List.take_succ_cons, List.take_zero, List.drop_succ_cons, List.drop_zero]
  still_step
  still_step
  still_step
  still_call ((C3.out _).mono fun _ _ h => ⟨h.1, h.2.symm⟩)
  still_step
  still_step
  still_step
  still_call ((C4.out _).mono fun _ _ h => ⟨h.1, h.2.symm⟩)
  still_step
  still_step
  refine wpStill_nil ?_
  change wpList _ _ _ _ _ W0.drew
  go_wp2
  obtain ⟨W1, hW1, gv1, gp1, hb1⟩ : ∃ W1, ((W0.setCell ⟨v, 0, none⟩ (.int .i64 x0)).setCell ⟨v, 1, none⟩ (.int .i64 y0)).drew = W1 ∧ W1.heap[v]? = some (.cells #[.int .i64 x0, .int .i64 y0, .int .i64 s', .int .i64 wd, .int .i64 ht] 25 (0, 0)) ∧ W1.heap[v + 1]? = some (.cells #[.int .i64 x, .int .i64 y] 23 (0, 0)) ∧ Below v w W1 :=
    ⟨_, rfl, by have h1 := heap_setCell_same W0 v 0 _ 25 (.int .i64 x0) gv; exact heap_setCell_same _ v 1 _ 25 (.int .i64 y0) h1, (heap_setCell_other _ _ _ _ (by show v + 1 ≠ v; omega)).trans ((heap_setCell_other _ _ _ _ (by show v + 1 ≠ v; omega)).trans gp), ((hb0.setCell (p := ⟨v, 0, none⟩) (Nat.le_refl v) _).setCell (p := ⟨v, 1, none⟩) (Nat.le_refl v) _).drew⟩
  rw [hW1]
  clear hW1 v0 v1 f0 f1 gv gp hb0'
  have p0 := cell_of_row W1 (v + 1) 0 _ 23 (0, 0) gp1
  have p1 := cell_of_row W1 (v + 1) 1 _ 23 (0, 0) gp1
  have f0 := frozen_of_row W1 (v + 1) 0 _ 23 gp1
  have f1 := frozen_of_row W1 (v + 1) 1 _ 23 gp1
  refine wp_region_still_tail 7 (by kernel_rfl) (by kernel_rfl) ?_
  simp only [List.take_succ_cons, List.take_zero, List.drop_succ_cons, List.drop_zero]
  still_step
  still_step
  still_call ((C5.out _).mono fun _ _ h => ⟨h.1, h.2.symm⟩)
  still_step
  still_step
  still_call ((C6.out _).mono fun _ _ h => ⟨h.1, h.2.symm⟩)
  still_step
  refine wpStill_nil ?_
  change wpList _ _ _ _ _ W1.drew
  have hz1 := hb1.size
  have q0 : W1.cell? ⟨v, 0, none⟩ = some (.int .i64 x0) := cell_of_row W1 v 0 _ 25 (0, 0) gv1
  have q1 : W1.cell? ⟨v, 1, none⟩ = some (.int .i64 y0) := cell_of_row W1 v 1 _ 25 (0, 0) gv1
  have q2 : W1.cell? ⟨v, 2, none⟩ = some (.int .i64 s') := cell_of_row W1 v 2 _ 25 (0, 0) gv1
  have q3 : W1.cell? ⟨v, 3, none⟩ = some (.int .i64 wd) := cell_of_row W1 v 3 _ 25 (0, 0) gv1
  have q4 : W1.cell? ⟨v, 4, none⟩ = some (.int .i64 ht) := cell_of_row W1 v 4 _ 25 (0, 0) gv1
  go_wp2
  obtain ⟨W2, u, hu, hW2, gv2, gp2, gu2, hb2, huv, huW⟩ : ∃ W2, ∃ u, W1.heap.size = u ∧ (((W1.setCell ⟨v + 1, 0, none⟩ (.int .i64 x1)).setCell ⟨v + 1, 1, none⟩ (.int .i64 y1)).alloc (.cells #[.int .i64 x0, .int .i64 y0, .int .i64 s', .int .i64 wd, .int .i64 ht] 25)).drew = W2 ∧ W2.heap[v]? = some (.cells #[.int .i64 x0, .int .i64 y0, .int .i64 s', .int .i64 wd, .int .i64 ht] 25 (0, 0)) ∧ W2.heap[v + 1]? = some (.cells #[.int .i64 x1, .int .i64 y1] 23 (0, 0)) ∧ W2.heap[u]? = some (.cells #[.int .i64 x0, .int .i64 y0, .int .i64 s', .int .i64 wd, .int .i64 ht] 25 (0, 0)) ∧ Below v w W2 ∧ v + 1 < u ∧ u < W2.heap.size := by
    have h1 := heap_setCell_same W1 (v + 1) 0 _ 23 (.int .i64 x1) gp1
    have h2 := heap_setCell_same _ (v + 1) 1 _ 23 (.int .i64 y1) h1
    have hlt := (Array.getElem?_eq_some_iff.1 gp1).1
    have hbb := (hb1.setCell (p := ⟨v + 1, 0, none⟩) (by show v ≤ v + 1; omega) (.int .i64 x1)).setCell (p := ⟨v + 1, 1, none⟩) (by show v ≤ v + 1; omega) (.int .i64 y1)
    have hsz : ((W1.setCell ⟨v + 1, 0, none⟩ (.int .i64 x1)).setCell ⟨v + 1, 1, none⟩ (.int .i64 y1)).heap.size = W1.heap.size := by simp
    refine ⟨_, _, rfl, rfl, ?_, ?_, ?_, (hbb.alloc (by omega) _).drew, hlt, ?_⟩
    · exact (Below.heap_alloc _ _ v (by rw [hsz]; omega)).trans ((heap_setCell_other _ _ _ _ (by show v ≠ v + 1; omega)).trans ((heap_setCell_other _ _ _ _ (by show v ≠ v + 1; omega)).trans gv1))
    · exact (Below.heap_alloc _ _ (v + 1) (by rw [hsz]; omega)).trans h2
    · have := heap_alloc_new ((W1.setCell ⟨v + 1, 0, none⟩ (.int .i64 x1)).setCell ⟨v + 1, 1, none⟩ (.int .i64 y1)) (.cells #[.int .i64 x0, .int .i64 y0, .int .i64 s', .int .i64 wd, .int .i64 ht] 25)
      rw [hsz] at this
      exact this
    · show W1.heap.size < _
      simp [World.drew]
  rw [hW2, hu]
  clear hW2 q0 q1 q2 q3 q4 p0 p1 f0 f1 gv1 gp1 hz1 hu hb1 hb0
  have M1 := mul_sc N1 N2
  have M2 := mul_bd N1 N3
  have M3 := mul_bd N1 N4
  have M4 := mul_bd N1 N5
  have M5 := mul_bd N1 N6
  have w1 : IntKind.i64.wrap (n' * s') = n' * s' := IntWalk.i64_in _ (by omega)
  have w2 : IntKind.i64.wrap (n' * x0) = n' * x0 := IntWalk.i64_in _ (by omega)
  have w3 : IntKind.i64.wrap (n' * y0) = n' * y0 := IntWalk.i64_in _ (by omega)
  have w4 : IntKind.i64.wrap (n' * x1) = n' * x1 := IntWalk.i64_in _ (by omega)
  have w5 : IntKind.i64.wrap (n' * y1) = n' * y1 := IntWalk.i64_in _ (by omega)
  have q0 : W2.cell? ⟨v, 0, none⟩ = some (.int .i64 x0) := cell_of_row W2 v 0 _ 25 (0, 0) gv2
  have q1 : W2.cell? ⟨v, 1, none⟩ = some (.int .i64 y0) := cell_of_row W2 v 1 _ 25 (0, 0) gv2
  have q2 : W2.cell? ⟨v, 2, none⟩ = some (.int .i64 s') := cell_of_row W2 v 2 _ 25 (0, 0) gv2
  have q3 : W2.cell? ⟨v, 3, none⟩ = some (.int .i64 wd) := cell_of_row W2 v 3 _ 25 (0, 0) gv2
  have q4 : W2.cell? ⟨v, 4, none⟩ = some (.int .i64 ht) := cell_of_row W2 v 4 _ 25 (0, 0) gv2
  have u0 := cell_of_row W2 u 0 _ 25 (0, 0) gu2
  have u1 := cell_of_row W2 u 1 _ 25 (0, 0) gu2
  have u2 := cell_of_row W2 u 2 _ 25 (0, 0) gu2
  have f0 := frozen_of_row W2 u 0 _ 25 gu2
  have f1 := frozen_of_row W2 u 1 _ 25 gu2
  have f2 := frozen_of_row W2 u 2 _ 25 gu2
  have huv' : v ≠ u := by omega
  obtain ⟨Wa, hWa, q0, q1, q2, f2⟩ : ∃ Wa, W2.drew = Wa ∧ Wa.cell? ⟨v, 0, none⟩ = some (.int .i64 x0) ∧ Wa.cell? ⟨v, 1, none⟩ = some (.int .i64 y0) ∧ Wa.cell? ⟨v, 2, none⟩ = some (.int .i64 s') ∧ Wa.frozen? ⟨u, 2, none⟩ = false := ⟨_, rfl, q0, q1, q2, f2⟩
  have gu : Wa.heap[u]? = some (.cells #[.int .i64 x0, .int .i64 y0, .int .i64 s', .int .i64 wd, .int .i64 ht] 25 (0, 0)) := by rw [← hWa]; exact gu2
  have gv : Wa.heap[v]? = some (.cells #[.int .i64 x0, .int .i64 y0, .int .i64 s', .int .i64 wd, .int .i64 ht] 25 (0, 0)) := by rw [← hWa]; exact gv2
  have gp : Wa.heap[v + 1]? = some (.cells #[.int .i64 x1, .int .i64 y1] 23 (0, 0)) := by rw [← hWa]; exact gp2
  have hba : Below v w Wa := by rw [← hWa]; exact hb2.drew
  obtain ⟨Wb, hWb⟩ : ∃ Wb, Wa.setCell ⟨u, 2, none⟩ (.int .i64 (n' * s')) = Wb := ⟨_, rfl⟩
  have gub : Wb.heap[u]? = some (.cells #[.int .i64 x0, .int .i64 y0, .int .i64 (n' * s'), .int .i64 wd, .int .i64 ht] 25 (0, 0)) := by rw [← hWb]; exact heap_setCell_same Wa u 2 _ 25 _ gu
  have gvb : Wb.heap[v]? = some (.cells #[.int .i64 x0, .int .i64 y0, .int .i64 s', .int .i64 wd, .int .i64 ht] 25 (0, 0)) := by rw [← hWb]; exact (heap_setCell_other _ _ _ _ (by show v ≠ u; omega)).trans gv
  have gpb : Wb.heap[v + 1]? = some (.cells #[.int .i64 x1, .int .i64 y1] 23 (0, 0)) := by rw [← hWb]; exact (heap_setCell_other _ _ _ _ (by show v + 1 ≠ u; omega)).trans gp
  have hbb : Below v w Wb := by rw [← hWb]; exact hba.setCell (p := ⟨u, 2, none⟩) (by show v ≤ u; omega) _
  obtain ⟨Wc, hWc⟩ : ∃ Wc, (Wb.setCell ⟨u, 0, none⟩ (.int .i64 (n' * x0))).setCell ⟨u, 1, none⟩ (.int .i64 (n' * y0)) = Wc := ⟨_, rfl⟩
  have guc : Wc.heap[u]? = some (.cells #[.int .i64 (n' * x0), .int .i64 (n' * y0), .int .i64 (n' * s'), .int .i64 wd, .int .i64 ht] 25 (0, 0)) := by
    rw [← hWc]
    have h1 := heap_setCell_same Wb u 0 _ 25 (.int .i64 (n' * x0)) gub
    exact heap_setCell_same _ u 1 _ 25 _ h1
  have gvc : Wc.heap[v]? = some (.cells #[.int .i64 x0, .int .i64 y0, .int .i64 s', .int .i64 wd, .int .i64 ht] 25 (0, 0)) := by rw [← hWc]; exact (heap_setCell_other _ _ _ _ (by show v ≠ u; omega)).trans ((heap_setCell_other _ _ _ _ (by show v ≠ u; omega)).trans gvb)
  have gpc : Wc.heap[v + 1]? = some (.cells #[.int .i64 x1, .int .i64 y1] 23 (0, 0)) := by rw [← hWc]; exact (heap_setCell_other _ _ _ _ (by show v + 1 ≠ u; omega)).trans ((heap_setCell_other _ _ _ _ (by show v + 1 ≠ u; omega)).trans gpb)
  have hbc : Below v w Wc := by rw [← hWc]; exact (hbb.setCell (p := ⟨u, 0, none⟩) (by show v ≤ u; omega) _).setCell (p := ⟨u, 1, none⟩) (by show v ≤ u; omega) _
  have r0 : Wb.cell? ⟨v, 0, none⟩ = some (.int .i64 x0) := cell_of_row Wb v 0 _ 25 (0, 0) gvb
  have r1 : Wb.cell? ⟨v, 1, none⟩ = some (.int .i64 y0) := cell_of_row Wb v 1 _ 25 (0, 0) gvb
  have r2 : Wb.cell? ⟨v, 2, none⟩ = some (.int .i64 s') := cell_of_row Wb v 2 _ 25 (0, 0) gvb
  have u0 := cell_of_row Wb u 0 _ 25 (0, 0) gub
  have u1 := cell_of_row Wb u 1 _ 25 (0, 0) gub
  have u2 := cell_of_row Wa u 2 _ 25 (0, 0) gu
  have f0 := frozen_of_row Wb u 0 _ 25 gub
  have f1 := frozen_of_row Wb u 1 _ 25 gub
  have huc : u < Wc.heap.size := (Array.getElem?_eq_some_iff.1 guc).1
  clear gu2 gv2 gp2 hb2 gu gv gp hba gub gvb gpb hbb huW
  refine Dr.region (Dr.Ws [Wa, Wb, Wc]) [16, 18] [(0, 0, false), (0, 0, false), (0, 0, false), (0, 0, false), (0, 1, false), (0, 1, false), (0, 1, false), (0, 1, false), (0, 1, false), (0, 1, false), (0, 1, false), (0, 1, false), (0, 1, false), (0, 1, false), (0, 1, false), (0, 0, false), (0, 0, true), (1, 1, false), (1, 1, true)] 2 (by kernel_rfl) (by kernel_rfl) (by kernel_rfl) (by kernel_rfl) hWa ?_
  apply Dr.cons
  · intro k hk1 hk2 w' hw K hK
    obtain rfl : k = 0 := by omega
    have hw : w' = Wa := hw
    subst hw
    go_simp
    exact hK _ rfl
  · exact ⟨_, rfl⟩
  apply Dr.cons
  · intro k hk1 hk2 w' hw K hK
    obtain rfl : k = 0 := by omega
    have hw : w' = Wa := hw
    subst hw
    go_simp
    exact hK _ rfl
  · exact ⟨_, rfl⟩
  apply Dr.cons
  · intro k hk1 hk2 w' hw K hK
    obtain rfl : k = 0 := by omega
    have hw : w' = Wa := hw
    subst hw
    go_simp
    exact hK _ rfl
  · exact ⟨_, rfl⟩
  apply Dr.cons
  · intro k hk1 hk2 w' hw K hK
    obtain rfl : k = 0 := by omega
    have hw : w' = Wa := hw
    subst hw
    go_simp
    exact hK _ rfl
  · exact ⟨_, rfl⟩
  apply Dr.cons
  · intro k hk1 hk2 w' hw K hK
    obtain rfl | rfl : k = 0 ∨ k = 1 := by omega
    · have hw : w' = Wa := hw
      subst hw
      go_simp
      exact hK _ rfl
    · have hw : w' = Wb := hw
      subst hw
      go_simp
      exact hK _ rfl
  · exact ⟨_, rfl⟩
  apply Dr.cons
  · intro k hk1 hk2 w' hw K hK
    obtain rfl | rfl : k = 0 ∨ k = 1 := by omega
    · have hw : w' = Wa := hw
      subst hw
      go_simp
      exact hK _ rfl
    · have hw : w' = Wb := hw
      subst hw
      go_simp
      exact hK _ rfl
  · exact ⟨_, rfl⟩
  apply Dr.cons
  · intro k hk1 hk2 w' hw K hK
    obtain rfl | rfl : k = 0 ∨ k = 1 := by omega
    · have hw : w' = Wa := hw
      subst hw
      go_simp
      exact hK _ rfl
    · have hw : w' = Wb := hw
      subst hw
      go_simp
      exact hK _ rfl
  · exact ⟨_, rfl⟩
  apply Dr.cons
  · intro k hk1 hk2 w' hw K hK
    obtain rfl | rfl : k = 0 ∨ k = 1 := by omega
    · have hw : w' = Wa := hw
      subst hw
      go_simp
      exact hK _ rfl
    · have hw : w' = Wb := hw
      subst hw
      go_simp
      exact hK _ rfl
  · exact ⟨_, rfl⟩
  apply Dr.cons
  · intro k hk1 hk2 w' hw K hK
    obtain rfl | rfl : k = 0 ∨ k = 1 := by omega
    · have hw : w' = Wa := hw
      subst hw
      go_simp
      exact hK _ rfl
    · have hw : w' = Wb := hw
      subst hw
      go_simp
      exact hK _ rfl
  · exact ⟨_, rfl⟩
  apply Dr.cons
  · intro k hk1 hk2 w' hw K hK
    obtain rfl | rfl : k = 0 ∨ k = 1 := by omega
    · have hw : w' = Wa := hw
      subst hw
      go_simp
      exact hK _ rfl
    · have hw : w' = Wb := hw
      subst hw
      go_simp
      exact hK _ rfl
  · exact ⟨_, rfl⟩
  apply Dr.cons
  · intro k hk1 hk2 w' hw K hK
    obtain rfl | rfl : k = 0 ∨ k = 1 := by omega
    · have hw : w' = Wa := hw
      subst hw
      go_simp
      exact hK _ rfl
    · have hw : w' = Wb := hw
      subst hw
      go_simp
      exact hK _ rfl
  · exact ⟨_, rfl⟩
  apply Dr.cons
  · intro k hk1 hk2 w' hw K hK
    obtain rfl | rfl : k = 0 ∨ k = 1 := by omega
    · have hw : w' = Wa := hw
      subst hw
      go_simp
      exact hK _ rfl
    · have hw : w' = Wb := hw
      subst hw
      go_simp
      exact hK _ rfl
  · exact ⟨_, rfl⟩
  apply Dr.cons
  · intro k hk1 hk2 w' hw K hK
    obtain rfl | rfl : k = 0 ∨ k = 1 := by omega
    · have hw : w' = Wa := hw
      subst hw
      go_simp
      exact hK _ rfl
    · have hw : w' = Wb := hw
      subst hw
      go_simp
      exact hK _ rfl
  · exact ⟨_, rfl⟩
  apply Dr.cons
  · intro k hk1 hk2 w' hw K hK
    obtain rfl | rfl : k = 0 ∨ k = 1 := by omega
    · have hw : w' = Wa := hw
      subst hw
      go_simp
      exact hK _ rfl
    · have hw : w' = Wb := hw
      subst hw
      go_simp
      exact hK _ rfl
  · exact ⟨_, rfl⟩
  apply Dr.cons
  · intro k hk1 hk2 w' hw K hK
    obtain rfl | rfl : k = 0 ∨ k = 1 := by omega
    · have hw : w' = Wa := hw
      subst hw
      go_simp
      exact hK _ rfl
    · have hw : w' = Wb := hw
      subst hw
      go_simp
      exact hK _ rfl
  · exact ⟨_, rfl⟩
  apply Dr.cons
  · intro k hk1 hk2 w' hw K hK
    obtain rfl : k = 0 := by omega
    have hw : w' = Wa := hw
    subst hw
    go_simp
    exact hK _ rfl
  · exact ⟨_, rfl⟩
  apply Dr.cons
  · intro k hk1 hk2 w' hw K hK
    obtain rfl : k = 0 := by omega
    have hw : w' = Wa := hw
    subst hw
    go_simp
    exact hK _ rfl
  · exact ⟨.int .i64 0, rfl⟩
  apply Dr.cons
  · intro k hk1 hk2 w' hw K hK
    obtain rfl : k = 1 := by omega
    have hw : w' = Wb := hw
    subst hw
    go_simp
    exact hK _ rfl
  · exact ⟨_, rfl⟩
  apply Dr.cons
  · intro k hk1 hk2 w' hw K hK
    obtain rfl : k = 1 := by omega
    have hw : w' = Wb := hw
    subst hw
    go_simp
    exact hK _ rfl
  · exact ⟨.int .i64 0, rfl⟩
  intro w' hw'
  have hw' : w' = Wc := hw'
  subst hw'
  clear hWa hWb hWc q0 q1 q2 f2 r0 r1 r2 u0 u1 u2 f0 f1
  have c0 : w'.cell? ⟨v, 0, none⟩ = some (.int .i64 x0) := cell_of_row w' v 0 _ 25 (0, 0) gvc
  have c1 : w'.cell? ⟨v, 1, none⟩ = some (.int .i64 y0) := cell_of_row w' v 1 _ 25 (0, 0) gvc
  have c2 : w'.cell? ⟨v, 2, none⟩ = some (.int .i64 s') := cell_of_row w' v 2 _ 25 (0, 0) gvc
  have c3 : w'.cell? ⟨v, 3, none⟩ = some (.int .i64 wd) := cell_of_row w' v 3 _ 25 (0, 0) gvc
  have c4 : w'.cell? ⟨v, 4, none⟩ = some (.int .i64 ht) := cell_of_row w' v 4 _ 25 (0, 0) gvc
  have p0 := cell_of_row w' (v + 1) 0 _ 23 (0, 0) gpc
  have p1 := cell_of_row w' (v + 1) 1 _ 23 (0, 0) gpc
  have HCA := Lib.hid (fun W => Cell_all x0 y0 s' wd ht x1 y1 W (by omega) (by omega) (by omega) (by omega) (by omega) (by omega) (by omega) (by omega))
  have hcb := fun W => Cell_all (n' * x0) (n' * y0) (n' * s') wd ht (n' * x1) (n' * y1) W (by omega) (by omega) (by omega) (by omega) (by omega) (by omega) (by omega) (by omega)
  rw [cellR_scale n' x0 y0 s' wd ht x1 y1 (by omega), cellV_scale n' x0 y0 s' wd ht x1 y1 (by omega)] at hcb
  have HCB := Lib.hid hcb
  have HG := Lib.hid (And.intro gvc (And.intro gpc (And.intro guc hbc)))
  generalize (cellR x0 y0 s' wd ht x1 y1).1 = k1 at *
  generalize (cellR x0 y0 s' wd ht x1 y1).2 = k2 at *
  generalize cellV x0 y0 s' wd ht x1 y1 = kv at *
  generalize sideE wd ht = ke at *
  have hvc : v + 1 < w'.heap.size := by omega
  clear hcb C1 C2 C3 C4 C5 C6 N1 N2 N3 N4 N5 N6 M1 M2 M3 M4 M5 gvc gpc guc hbc
  go_wp2_with (first
    | (go_at_call 9; have _t := tok3; go_loud ((with_reducible refine (HCA.out _).mono ?_); rintro e w3 ⟨rfl, hb3⟩; have hz3 := hb3.size; have d0 : w3.cell? ⟨u, 0, none⟩ = some (.int .i64 (n' * x0)) := (hb3.cell (p := ⟨u, 0, none⟩) huc).trans (cell_of_row w' u 0 _ 25 (0, 0) HG.out.2.2.1); have d1 : w3.cell? ⟨u, 1, none⟩ = some (.int .i64 (n' * y0)) := (hb3.cell (p := ⟨u, 1, none⟩) huc).trans (cell_of_row w' u 1 _ 25 (0, 0) HG.out.2.2.1); have d2 : w3.cell? ⟨u, 2, none⟩ = some (.int .i64 (n' * s')) := (hb3.cell (p := ⟨u, 2, none⟩) huc).trans (cell_of_row w' u 2 _ 25 (0, 0) HG.out.2.2.1); have d3 : w3.cell? ⟨u, 3, none⟩ = some (.int .i64 (wd)) := (hb3.cell (p := ⟨u, 3, none⟩) huc).trans (cell_of_row w' u 3 _ 25 (0, 0) HG.out.2.2.1); have d4 : w3.cell? ⟨u, 4, none⟩ = some (.int .i64 (ht)) := (hb3.cell (p := ⟨u, 4, none⟩) huc).trans (cell_of_row w' u 4 _ 25 (0, 0) HG.out.2.2.1); have e0 : w3.cell? ⟨v + 1, 0, none⟩ = some (.int .i64 x1) := (hb3.cell (p := ⟨v + 1, 0, none⟩) hvc).trans p0; have e1 : w3.cell? ⟨v + 1, 1, none⟩ = some (.int .i64 y1) := (hb3.cell (p := ⟨v + 1, 1, none⟩) hvc).trans p1; have hn1 : u ≠ w3.heap.size := (by omega); have hn2 : v + 1 ≠ w3.heap.size := (by omega); have hl1 : u < w3.heap.size := (by omega); have hl2 : v + 1 < w3.heap.size := (by omega); clear tok3))
    | (go_at_call 9; have _t := tok4; go_loud ((with_reducible refine (HCB.out _).mono ?_); rintro e w4 ⟨rfl, hb4⟩; have hz4 := hb4.size; simp at hz4; have g8 : w4.heap[w3.heap.size]? = some (.cells #[.int .i64 k1, .int .i64 k2] 27 (0, 0)) := (hb4.block _ (by simp)).trans (heap_alloc_new w3 _); have hn3 : w3.heap.size ≠ w4.heap.size := (by omega); have hl3 : w3.heap.size < w4.heap.size := (by omega); clear tok4))
    | (go_at_call 10; go_loud ((refine (fact_any _).mono ?_); rintro e w5 ⟨rfl, hb5⟩; have hz5 := hb5.size; simp at hz5; have g5 : w5.heap[w4.heap.size]? = some (.cells #[.int .i64 k1, .int .i64 k2] 27 (0, 0)) := (hb5.block _ (by simp)).trans (heap_alloc_new w4 _); have g6 : w5.heap[w3.heap.size]? = some (.cells #[.int .i64 k1, .int .i64 k2] 27 (0, 0)) := (hb5.block _ (by simp; omega)).trans ((Below.heap_alloc _ _ w3.heap.size (by omega)).trans g8); have j0 : w5.cell? ⟨w4.heap.size, 0, none⟩ = some (.int .i64 k1) := cell_of_row w5 _ 0 _ 27 (0, 0) g5; have j1 : w5.cell? ⟨w4.heap.size, 1, none⟩ = some (.int .i64 k2) := cell_of_row w5 _ 1 _ 27 (0, 0) g5; have j2 : w5.cell? ⟨w3.heap.size, 0, none⟩ = some (.int .i64 k1) := cell_of_row w5 _ 0 _ 27 (0, 0) g6; have j3 : w5.cell? ⟨w3.heap.size, 1, none⟩ = some (.int .i64 k2) := cell_of_row w5 _ 1 _ 27 (0, 0) g6)))
  go_ret
  refine ⟨rfl, ?_⟩
  have z0 := HG.out.2.2.2.size
  rw [hv]
  have b3 : Below v w w3 := HG.out.2.2.2.trans (hb3.mono (by omega))
  have b4 : Below v w w4 := (b3.alloc (by omega) _).trans (hb4.mono (by simp; omega))
  exact (b4.alloc (by omega) _).trans (hb5.mono (by simp; omega))
end Go.Proofs.Ytlkdjnmehnibmaa
