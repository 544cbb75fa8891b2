/- Package label, the other end: LabelBox, Inside, outside. -/
import Derived.Test.YtpnihjomemojlaaB2
namespace Go.Proofs.Ytpnihjomemojlaa
open Go.RowKit Go.Shelf Go.Proofs

set_option maxRecDepth 100000 in
set_option maxHeartbeats 4000000 in
theorem LabelBox_any (i : It) (k : Nat) (hk : k < 8) (w : World) :
    Calls Try.prog 22 #[.agg #[.int .i64 i.x, .int .i64 i.y, .int .i64 i.w, .int .i64 i.h], .int .i64 (k : Int)] w fun e w' => e = .returned (.agg #[.int .i64 (boxS i k).x, .int .i64 (boxS i k).y, .int .i64 (boxS i k).w, .int .i64 (boxS i k).h]) ∧ Below w.heap.size w w' := by
  obtain ⟨x, y, v, h⟩ := i
  obtain ⟨W0, hW0, gv, gp, hb0⟩ : ∃ W0, (w.alloc (.cells #[.int .i64 x, .int .i64 y, .int .i64 v, .int .i64 h] 31)).alloc (.cells #[.int .i64 0, .int .i64 0, .int .i64 0, .int .i64 0] 23) = W0 ∧ W0.heap[w.heap.size]? = some (.cells #[.int .i64 x, .int .i64 y, .int .i64 v, .int .i64 h] 31 (0, 0)) ∧ W0.heap[w.heap.size + 1]? = some (.cells #[.int .i64 0, .int .i64 0, .int .i64 0, .int .i64 0] 23 (0, 0)) ∧ Below w.heap.size w W0 :=
    ⟨_, rfl, (Below.heap_alloc _ _ w.heap.size (by simp)).trans (heap_alloc_new w _), by have := heap_alloc_new (w.alloc (.cells #[.int .i64 x, .int .i64 y, .int .i64 v, .int .i64 h] 31)) (.cells #[.int .i64 0, .int .i64 0, .int .i64 0, .int .i64 0] 23); simpa using this, ((Below.refl _ w).alloc (Nat.le_refl _) _).alloc (by simp) _⟩
  have v0 := cell_of_row W0 w.heap.size 0 _ 31 (0, 0) gv
  have v1 := cell_of_row W0 w.heap.size 1 _ 31 (0, 0) gv
  have v2 := cell_of_row W0 w.heap.size 2 _ 31 (0, 0) gv
  have v3 := cell_of_row W0 w.heap.size 3 _ 31 (0, 0) gv
  obtain ⟨a1, e1⟩ : ∃ s, IntKind.i64.wrap (x + 1) = s := ⟨_, rfl⟩
  obtain ⟨a2, e2⟩ : ∃ s, IntKind.i64.wrap (x - v) = s := ⟨_, rfl⟩
  obtain ⟨a3, e3⟩ : ∃ s, IntKind.i64.wrap (y + 1) = s := ⟨_, rfl⟩
  obtain ⟨a4, e4⟩ : ∃ s, IntKind.i64.wrap (y - h) = s := ⟨_, rfl⟩
  obtain ⟨a5, e5⟩ : ∃ s, IntKind.i64.wrap (v.tdiv 2) = s := ⟨_, rfl⟩
  obtain ⟨a6, e6⟩ : ∃ s, IntKind.i64.wrap (h.tdiv 2) = s := ⟨_, rfl⟩
  obtain ⟨a7, e7⟩ : ∃ s, IntKind.i64.wrap (x - a5) = s := ⟨_, rfl⟩
  obtain ⟨a8, e8⟩ : ∃ s, IntKind.i64.wrap (y - a6) = s := ⟨_, rfl⟩
  dsimp only
  obtain ⟨r, hr⟩ : ∃ r, boxS ⟨x, y, v, h⟩ k = r := ⟨_, rfl⟩
  rw [hr]
  have HR := Lib.hid hr
  have HE := Lib.hid (And.intro e1 (And.intro e2 (And.intro e3 (And.intro e4 (And.intro e5 (And.intro e6 (And.intro e7 e8)))))))
  clear hr
  have hinfo : (Try.prog.info? 54).map (·.size) = some 2 := by kernel_rfl
  obtain ⟨i54, hi54, hs54⟩ := Option.map_eq_some_iff.1 hinfo
  obtain ⟨X, Y, hXY, hbx⟩ : ∃ X Y, (#[Value.int .i64 a1, .int .i64 a3, .int .i64 a2, .int .i64 a3, .int .i64 a2, .int .i64 a4, .int .i64 a1, .int .i64 a4, .int .i64 a1, .int .i64 a8, .int .i64 a2, .int .i64 a8, .int .i64 a7, .int .i64 a3, .int .i64 a7, .int .i64 a4] : Array Value).extract (k * 2) (k * 2 + 2) = #[.int .i64 X, .int .i64 Y] ∧ r = ⟨X, Y, v, h⟩ := by
    rw [← HR.out]
    obtain ⟨E1, E2, E3, E4, E5, E6, E7, E8⟩ := HE.out
    rcases (show k = 0 ∨ k = 1 ∨ k = 2 ∨ k = 3 ∨ k = 4 ∨ k = 5 ∨ k = 6 ∨ k = 7 by omega) with rfl | rfl | rfl | rfl | rfl | rfl | rfl | rfl
    all_goals exact ⟨_, _, rfl, by simp only [boxS, wr64, E1, E2, E3, E4, E5, E6, E7, E8]⟩
  have rX := fun (W : World) => run_index_row (P := Try.prog) Try.underlying55 Try.underlying54 rfl hi54 (#[Value.int .i64 a1, .int .i64 a3, .int .i64 a2, .int .i64 a3, .int .i64 a2, .int .i64 a4, .int .i64 a1, .int .i64 a4, .int .i64 a1, .int .i64 a8, .int .i64 a2, .int .i64 a8, .int .i64 a7, .int .i64 a3, .int .i64 a7, .int .i64 a4] : Array Value) .i64 k hk W
  rw [hs54, hXY] at rX
  rw [hbx]
  clear hXY hbx HR hinfo
  go_enter Try.func22, Try.ntmps22
  go_wp2
  go_quiet (fail)
  obtain ⟨W1, hW1⟩ : ∃ W1, W0.drewN nq = W1 := ⟨_, rfl⟩
  have gvW1 : W1.heap[w.heap.size]? = some (.cells #[.int .i64 x, .int .i64 y, .int .i64 v, .int .i64 h] 31 (0, 0)) := by rw [← hW1]; exact gv
  have gpW1 : W1.heap[w.heap.size + 1]? = some (.cells #[.int .i64 0, .int .i64 0, .int .i64 0, .int .i64 0] 23 (0, 0)) := by rw [← hW1]; exact gp
  have hbW1 : Below w.heap.size w W1 := by rw [← hW1]; exact below_drewN hb0 _
  rw [hW1]
  clear hW1 v0 v1 v2 v3
  have v0 := cell_of_row W1 w.heap.size 0 _ 31 (0, 0) gvW1
  have v1 := cell_of_row W1 w.heap.size 1 _ 31 (0, 0) gvW1
  have v2 := cell_of_row W1 w.heap.size 2 _ 31 (0, 0) gvW1
  have v3 := cell_of_row W1 w.heap.size 3 _ 31 (0, 0) gvW1
  go_wp2
  go_quiet (fail)
  obtain ⟨W2, hW2⟩ : ∃ W2, W1.drewN nq = W2 := ⟨_, rfl⟩
  have gvW2 : W2.heap[w.heap.size]? = some (.cells #[.int .i64 x, .int .i64 y, .int .i64 v, .int .i64 h] 31 (0, 0)) := by rw [← hW2]; exact gvW1
  have gpW2 : W2.heap[w.heap.size + 1]? = some (.cells #[.int .i64 0, .int .i64 0, .int .i64 0, .int .i64 0] 23 (0, 0)) := by rw [← hW2]; exact gpW1
  have hbW2 : Below w.heap.size w W2 := by rw [← hW2]; exact below_drewN hbW1 _
  rw [hW2]
  clear hW2 v0 v1 v2 v3
  have v0 := cell_of_row W2 w.heap.size 0 _ 31 (0, 0) gvW2
  have v1 := cell_of_row W2 w.heap.size 1 _ 31 (0, 0) gvW2
  have v2 := cell_of_row W2 w.heap.size 2 _ 31 (0, 0) gvW2
  have v3 := cell_of_row W2 w.heap.size 3 _ 31 (0, 0) gvW2
  have p0 := cell_of_row W2 (w.heap.size + 1) 0 _ 23 (0, 0) gpW2
  have p1 := cell_of_row W2 (w.heap.size + 1) 1 _ 23 (0, 0) gpW2
  have p2 := cell_of_row W2 (w.heap.size + 1) 2 _ 23 (0, 0) gpW2
  have p3 := cell_of_row W2 (w.heap.size + 1) 3 _ 23 (0, 0) gpW2
  have f0 := frozen_of_row W2 (w.heap.size + 1) 0 _ 23 gpW2
  have f1 := frozen_of_row W2 (w.heap.size + 1) 1 _ 23 gpW2
  have f2 := frozen_of_row W2 (w.heap.size + 1) 2 _ 23 gpW2
  have f3 := frozen_of_row W2 (w.heap.size + 1) 3 _ 23 gpW2
  have hz0 : w.heap.size + 1 < W2.heap.size := (Array.getElem?_eq_some_iff.1 gpW2).1
  have n1 : w.heap.size ≠ W2.heap.size := by omega
  have n2 : w.heap.size + 1 ≠ W2.heap.size := by omega
  have n3 : w.heap.size < W2.heap.size := by omega
  go_wp2
  obtain ⟨Ws, hWs⟩ : ∃ Ws, ((((W2.setCell ⟨w.heap.size + 1, 0, none⟩ (.int .i64 X)).setCell ⟨w.heap.size + 1, 1, none⟩ (.int .i64 Y)).setCell ⟨w.heap.size + 1, 2, none⟩ (.int .i64 v)).setCell ⟨w.heap.size + 1, 3, none⟩ (.int .i64 h)) = Ws := ⟨_, rfl⟩
  have gs : Ws.heap[w.heap.size + 1]? = some (.cells #[.int .i64 X, .int .i64 Y, .int .i64 v, .int .i64 h] 23 (0, 0)) := by
    rw [← hWs]
    exact heap_setCell_same _ _ 3 _ 23 _ (heap_setCell_same _ _ 2 _ 23 _ (heap_setCell_same _ _ 1 _ 23 _ (heap_setCell_same _ _ 0 _ 23 _ gpW2)))
  have hbs : Below w.heap.size w Ws := by
    rw [← hWs]
    exact ((((hbW2.setCell (p := ⟨w.heap.size + 1, 0, none⟩) (by show w.heap.size ≤ w.heap.size + 1; omega) _).setCell (p := ⟨w.heap.size + 1, 1, none⟩) (by show w.heap.size ≤ w.heap.size + 1; omega) _).setCell (p := ⟨w.heap.size + 1, 2, none⟩) (by show w.heap.size ≤ w.heap.size + 1; omega) _).setCell (p := ⟨w.heap.size + 1, 3, none⟩) (by show w.heap.size ≤ w.heap.size + 1; omega) _)
  have hlt : w.heap.size + 1 < Ws.heap.size := (Array.getElem?_eq_some_iff.1 gs).1
  obtain ⟨Wt, hWt⟩ : ∃ Wt, Ws.alloc (.cells #[.int .i64 X, .int .i64 Y] 54) = Wt := ⟨_, rfl⟩
  have gt : Wt.heap[w.heap.size + 1]? = some (.cells #[.int .i64 X, .int .i64 Y, .int .i64 v, .int .i64 h] 23 (0, 0)) := by
    rw [← hWt]
    exact (Below.heap_alloc _ _ _ hlt).trans gs
  have hbt : Below w.heap.size w Wt := by rw [← hWt]; exact hbs.alloc hbs.size _
  have r0 := cell_of_row Wt _ 0 _ 23 (0, 0) gt
  have r1 := cell_of_row Wt _ 1 _ 23 (0, 0) gt
  have r2 := cell_of_row Wt _ 2 _ 23 (0, 0) gt
  have r3 := cell_of_row Wt _ 3 _ 23 (0, 0) gt
  rw [hWs, hWt]
  exact bodyPost_ret (v := .agg #[.int .i64 X, .int .i64 Y, .int .i64 v, .int .i64 h]) (by simp [results, Try.results22, go_sem, r0, r1, r2, r3]) rfl ⟨rfl, hbt⟩

def insB (b : Bx) (x y : Int) : Bool := decide (b.x ≤ x) && decide (x < wr64 (b.x + b.w)) && decide (b.y ≤ y) && decide (y < wr64 (b.y + b.h))
set_option maxHeartbeats 1000000 in
theorem Inside_any (b : Bx) (x y : Int) (w : World) :
    Calls Try.prog 7 #[.agg #[.int .i64 b.x, .int .i64 b.y, .int .i64 b.w, .int .i64 b.h], .int .i64 x, .int .i64 y] w fun e w' => e = .returned (.bool (insB b x y)) ∧ Below w.heap.size w w' := by
  obtain ⟨bx, bY, bw, bh⟩ := b
  have HM : Hid (insB ⟨bx, bY, bw, bh⟩ x y = (decide (bx ≤ x) && decide (x < IntKind.i64.wrap (bx + bw)) && decide (bY ≤ y) && decide (y < IntKind.i64.wrap (bY + bh)))) := Lib.hid rfl
  generalize insB ⟨bx, bY, bw, bh⟩ x y = r at *
  obtain ⟨s1, e1⟩ : ∃ s, IntKind.i64.wrap (bx + bw) = s := ⟨_, rfl⟩
  obtain ⟨s2, e2⟩ : ∃ s, IntKind.i64.wrap (bY + bh) = s := ⟨_, rfl⟩
  rw [e1, e2] at HM
  dsimp only
  go_enter Try.func7, Try.ntmps7
  go_wp2
  all_goals
    go_ret
    refine ⟨by rw [HM.out]; simp; omega, (Below.refl _ w).alloc (Nat.le_refl _) _⟩

set_option maxHeartbeats 1000000 in
theorem pred24 (b : Bx) (B : Nat) (w : World) (hB : B < w.heap.size) (hg : w.heap[B]? = some (.cells #[.int .i64 b.x, .int .i64 b.y, .int .i64 b.w, .int .i64 b.h] 23 (0, 0))) :
    PredBelow Try.prog 24 #[.pointer (some ⟨B, 0, none⟩)] (fun x => .agg (itV x).toArray) (fun x => insB b x.x x.y) w := fun W x hb => by
  have g0 := (hb.block B hB).trans hg
  have c0 := cell_of_row W B 0 _ 23 (0, 0) g0
  have c1 := cell_of_row W B 1 _ 23 (0, 0) g0
  have c2 := cell_of_row W B 2 _ 23 (0, 0) g0
  have c3 := cell_of_row W B 3 _ 23 (0, 0) g0
  have hBW : B < W.heap.size := Nat.lt_of_lt_of_le hB hb.size
  have hne : B ≠ W.heap.size := by omega
  have HM := Lib.hid (fun V => Inside_any b x.x x.y V)
  show Calls _ _ _ _ fun e w' => e = .returned (.bool (insB b x.x x.y)) ∧ _
  obtain ⟨r, hr⟩ : ∃ r, insB b x.x x.y = r := ⟨_, rfl⟩
  rw [hr] at HM ⊢
  have HB := Lib.hid hb
  clear hr g0 hg hb
  obtain ⟨bx, bY, bw, bh⟩ := b
  obtain ⟨x1, x2, x3, x4⟩ := x
  dsimp only at c0 c1 c2 c3 HM
  show Calls Try.prog 24 #[.agg #[.int .i64 x1, .int .i64 x2, .int .i64 x3, .int .i64 x4], .pointer (some ⟨B, 0, none⟩)] W _
  go_enter Try.func24, Try.ntmps24
  go_wp2_with (go_at_call 7; go_loud (refine (HM.out _).mono ?_; rintro e w' ⟨rfl, hb'⟩))
  go_ret
  exact ⟨rfl, (HB.out.alloc HB.out.size _).trans (hb'.mono (by simp; have := HB.out.size; omega))⟩
end Go.Proofs.Ytpnihjomemojlaa
