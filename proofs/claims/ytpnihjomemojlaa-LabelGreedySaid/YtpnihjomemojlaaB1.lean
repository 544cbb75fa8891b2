/- Package label: items, boxes, Meet, box. -/
import Derived.Test.YtpnihjomemojlaaMem
import Derived.Test.YtpnihjomemojlaaRw
import Derived.BigQuiet
import Derived.Deep.QuietTactic
namespace Go.Proofs.Ytpnihjomemojlaa
open Go.RowKit

structure It where
  x : Int
  y : Int
  w : Int
  h : Int
instance : Inhabited It := ⟨⟨0, 0, 0, 0⟩⟩
structure Bx where
  x : Int
  y : Int
  w : Int
  h : Int
instance : Inhabited Bx := ⟨⟨0, 0, 0, 0⟩⟩
def itV (i : It) : List Value := [.int .i64 i.x, .int .i64 i.y, .int .i64 i.w, .int .i64 i.h]
def bxV (b : Bx) : List Value := [.int .i64 b.x, .int .i64 b.y, .int .i64 b.w, .int .i64 b.h]
def wr64 (n : Int) : Int := IntKind.i64.wrap n
def meetW (a b : Bx) : Bool := decide (a.x < wr64 (b.x + b.w)) && decide (b.x < wr64 (a.x + a.w)) && decide (a.y < wr64 (b.y + b.h)) && decide (b.y < wr64 (a.y + a.h))
def cell1 (i : It) : Bx := ⟨i.x, i.y, 1, 1⟩

set_option maxHeartbeats 1000000 in
theorem MeetW_any (a b : Bx) (w : World) :
    Calls Try.prog 8 #[.agg #[.int .i64 a.x, .int .i64 a.y, .int .i64 a.w, .int .i64 a.h], .agg #[.int .i64 b.x, .int .i64 b.y, .int .i64 b.w, .int .i64 b.h]] w fun e w' => e = .returned (.bool (meetW a b)) ∧ Below w.heap.size w w' := by
  obtain ⟨ax, ay, aw, ah⟩ := a
  obtain ⟨bx, bY, bw, bh⟩ := b
  have HM : Hid (meetW ⟨ax, ay, aw, ah⟩ ⟨bx, bY, bw, bh⟩ = (decide (ax < IntKind.i64.wrap (bx + bw)) && decide (bx < IntKind.i64.wrap (ax + aw)) && decide (ay < IntKind.i64.wrap (bY + bh)) && decide (bY < IntKind.i64.wrap (ay + ah)))) := Lib.hid rfl
  generalize meetW ⟨ax, ay, aw, ah⟩ ⟨bx, bY, bw, bh⟩ = r at *
  obtain ⟨s1, e1⟩ : ∃ s, IntKind.i64.wrap (bx + bw) = s := ⟨_, rfl⟩
  obtain ⟨s2, e2⟩ : ∃ s, IntKind.i64.wrap (ax + aw) = s := ⟨_, rfl⟩
  obtain ⟨s3, e3⟩ : ∃ s, IntKind.i64.wrap (bY + bh) = s := ⟨_, rfl⟩
  obtain ⟨s4, e4⟩ : ∃ s, IntKind.i64.wrap (ay + ah) = s := ⟨_, rfl⟩
  rw [e1, e2, e3, e4] at HM
  dsimp only
  go_enter Try.func8, Try.ntmps8
  go_wp2
  all_goals
    go_ret
    refine ⟨by rw [HM.out]; simp; omega, ((Below.refl _ w).alloc (Nat.le_refl _) _).alloc (by simp) _⟩

/-- The rectangle of a label. -/
def boxS (i : It) : Nat → Bx
  | 0 => ⟨wr64 (i.x + 1), wr64 (i.y + 1), i.w, i.h⟩
  | 1 => ⟨wr64 (i.x - i.w), wr64 (i.y + 1), i.w, i.h⟩
  | 2 => ⟨wr64 (i.x - i.w), wr64 (i.y - i.h), i.w, i.h⟩
  | 3 => ⟨wr64 (i.x + 1), wr64 (i.y - i.h), i.w, i.h⟩
  | 4 => ⟨wr64 (i.x + 1), wr64 (i.y - wr64 (i.h.tdiv 2)), i.w, i.h⟩
  | 5 => ⟨wr64 (i.x - i.w), wr64 (i.y - wr64 (i.h.tdiv 2)), i.w, i.h⟩
  | 6 => ⟨wr64 (i.x - wr64 (i.w.tdiv 2)), wr64 (i.y + 1), i.w, i.h⟩
  | _ => ⟨wr64 (i.x - wr64 (i.w.tdiv 2)), wr64 (i.y - i.h), i.w, i.h⟩

theorem IntOf {a b : Int} (h : Value.int .i64 a = .int .i64 b) : a = b := by injection h

set_option maxRecDepth 100000 in
set_option maxHeartbeats 4000000 in
theorem box_any (i : It) (k : Nat) (hk : k < 8) (w : World) :
    Calls Try.prog 20 #[.agg #[.int .i64 i.x, .int .i64 i.y, .int .i64 i.w, .int .i64 i.h], .int .i64 (k : Int)] w fun e w' => e = .returned (.agg #[.int .i64 (boxS i k).x, .int .i64 (boxS i k).y, .int .i64 (boxS i k).w, .int .i64 (boxS i k).h]) ∧ Below w.heap.size w w' := by
  obtain ⟨x, y, v, h⟩ := i
  obtain ⟨W0, hW0, gv, gp, hb0⟩ : ∃ W0, (w.alloc (.cells #[.int .i64 x, .int .i64 y, .int .i64 v, .int .i64 h] 31)).alloc (.cells #[.int .i64 0, .int .i64 0, .int .i64 0, .int .i64 0] 23) = W0 ∧ W0.heap[w.heap.size]? = some (.cells #[.int .i64 x, .int .i64 y, .int .i64 v, .int .i64 h] 31 (0, 0)) ∧ W0.heap[w.heap.size + 1]? = some (.cells #[.int .i64 0, .int .i64 0, .int .i64 0, .int .i64 0] 23 (0, 0)) ∧ Below w.heap.size w W0 :=
    ⟨_, rfl, (Below.heap_alloc _ _ w.heap.size (by simp)).trans (heap_alloc_new w _), by have := heap_alloc_new (w.alloc (.cells #[.int .i64 x, .int .i64 y, .int .i64 v, .int .i64 h] 31)) (.cells #[.int .i64 0, .int .i64 0, .int .i64 0, .int .i64 0] 23); simpa using this, ((Below.refl _ w).alloc (Nat.le_refl _) _).alloc (by simp) _⟩
  have v0 := cell_of_row W0 w.heap.size 0 _ 31 (0, 0) gv
  have v1 := cell_of_row W0 w.heap.size 1 _ 31 (0, 0) gv
  have v2 := cell_of_row W0 w.heap.size 2 _ 31 (0, 0) gv
  have v3 := cell_of_row W0 w.heap.size 3 _ 31 (0, 0) gv
  have p0 := cell_of_row W0 (w.heap.size + 1) 0 _ 23 (0, 0) gp
  have p1 := cell_of_row W0 (w.heap.size + 1) 1 _ 23 (0, 0) gp
  have p2 := cell_of_row W0 (w.heap.size + 1) 2 _ 23 (0, 0) gp
  have p3 := cell_of_row W0 (w.heap.size + 1) 3 _ 23 (0, 0) gp
  have f0 := frozen_of_row W0 (w.heap.size + 1) 0 _ 23 gp
  have f1 := frozen_of_row W0 (w.heap.size + 1) 1 _ 23 gp
  have f2 := frozen_of_row W0 (w.heap.size + 1) 2 _ 23 gp
  have f3 := frozen_of_row W0 (w.heap.size + 1) 3 _ 23 gp
  obtain ⟨a1, e1⟩ : ∃ s, IntKind.i64.wrap (x + 1) = s := ⟨_, rfl⟩
  obtain ⟨a2, e2⟩ : ∃ s, IntKind.i64.wrap (x - v) = s := ⟨_, rfl⟩
  obtain ⟨a3, e3⟩ : ∃ s, IntKind.i64.wrap (y + 1) = s := ⟨_, rfl⟩
  obtain ⟨a4, e4⟩ : ∃ s, IntKind.i64.wrap (y - h) = s := ⟨_, rfl⟩
  obtain ⟨a5, e5⟩ : ∃ s, IntKind.i64.wrap (v.tdiv 2) = s := ⟨_, rfl⟩
  obtain ⟨a6, e6⟩ : ∃ s, IntKind.i64.wrap (h.tdiv 2) = s := ⟨_, rfl⟩
  obtain ⟨a7, e7⟩ : ∃ s, IntKind.i64.wrap (x - a5) = s := ⟨_, rfl⟩
  obtain ⟨a8, e8⟩ : ∃ s, IntKind.i64.wrap (y - a6) = s := ⟨_, rfl⟩
  dsimp only
  obtain ⟨r, hr⟩ : ∃ r, boxS ⟨x, y, v, h⟩ k = r := ⟨_, rfl⟩
  rw [hr]
  have HR := Lib.hid hr
  have HE := Lib.hid (And.intro e1 (And.intro e2 (And.intro e3 (And.intro e4 (And.intro e5 (And.intro e6 (And.intro e7 e8)))))))
  clear hr
  have hinfo : (Try.prog.info? 3).map (·.size) = some 1 := by kernel_rfl
  obtain ⟨i3, hi3, hs3⟩ := Option.map_eq_some_iff.1 hinfo
  obtain ⟨X, hX⟩ : ∃ X, (#[Value.int .i64 a1, .int .i64 a2, .int .i64 a2, .int .i64 a1, .int .i64 a1, .int .i64 a2, .int .i64 a7, .int .i64 a7] : Array Value)[k]? = some (.int .i64 X) := by
    rcases (show k = 0 ∨ k = 1 ∨ k = 2 ∨ k = 3 ∨ k = 4 ∨ k = 5 ∨ k = 6 ∨ k = 7 by omega) with rfl | rfl | rfl | rfl | rfl | rfl | rfl | rfl <;> exact ⟨_, rfl⟩
  obtain ⟨Y, hY⟩ : ∃ Y, (#[Value.int .i64 a3, .int .i64 a3, .int .i64 a4, .int .i64 a4, .int .i64 a8, .int .i64 a8, .int .i64 a3, .int .i64 a4] : Array Value)[k]? = some (.int .i64 Y) := by
    rcases (show k = 0 ∨ k = 1 ∨ k = 2 ∨ k = 3 ∨ k = 4 ∨ k = 5 ∨ k = 6 ∨ k = 7 by omega) with rfl | rfl | rfl | rfl | rfl | rfl | rfl | rfl <;> exact ⟨_, rfl⟩
  have rX := fun (W : World) => run_index_cell (P := Try.prog) Try.underlying51 Try.underlying3 rfl hi3 hs3 _ .i64 k hk _ hX W
  have rY := fun (W : World) => run_index_cell (P := Try.prog) Try.underlying51 Try.underlying3 rfl hi3 hs3 _ .i64 k hk _ hY W
  have hbx : r = ⟨X, Y, v, h⟩ := by
    rw [← HR.out]
    have E := HE.out
    obtain ⟨E1, E2, E3, E4, E5, E6, E7, E8⟩ := E
    rcases (show k = 0 ∨ k = 1 ∨ k = 2 ∨ k = 3 ∨ k = 4 ∨ k = 5 ∨ k = 6 ∨ k = 7 by omega) with rfl | rfl | rfl | rfl | rfl | rfl | rfl | rfl
    all_goals
      obtain rfl := IntOf (Option.some.inj hX)
      obtain rfl := IntOf (Option.some.inj hY)
      simp only [boxS, wr64, E1, E2, E3, E4, E5, E6, E7, E8]
  rw [hbx]
  clear hX hY hbx HR
  go_enter Try.func20, Try.ntmps20
  go_wp2
  go_quiet (fail)
  go_wp2
  obtain ⟨Ws, hWs⟩ : ∃ Ws, (((((W0.drewN nq).setCell ⟨w.heap.size + 1, 0, none⟩ (.int .i64 X)).setCell ⟨w.heap.size + 1, 1, none⟩ (.int .i64 Y)).setCell ⟨w.heap.size + 1, 2, none⟩ (.int .i64 v)).setCell ⟨w.heap.size + 1, 3, none⟩ (.int .i64 h)) = Ws := ⟨_, rfl⟩
  have gs : Ws.heap[w.heap.size + 1]? = some (.cells #[.int .i64 X, .int .i64 Y, .int .i64 v, .int .i64 h] 23 (0, 0)) := by
    rw [← hWs]
    have g0 : (W0.drewN nq).heap[w.heap.size + 1]? = some (.cells #[.int .i64 0, .int .i64 0, .int .i64 0, .int .i64 0] 23 (0, 0)) := gp
    exact heap_setCell_same _ _ 3 _ 23 _ (heap_setCell_same _ _ 2 _ 23 _ (heap_setCell_same _ _ 1 _ 23 _ (heap_setCell_same _ _ 0 _ 23 _ g0)))
  have hbs : Below w.heap.size w Ws := by
    rw [← hWs]
    exact (((((below_drewN hb0 _).setCell (p := ⟨w.heap.size + 1, 0, none⟩) (by show w.heap.size ≤ w.heap.size + 1; omega) _).setCell (p := ⟨w.heap.size + 1, 1, none⟩) (by show w.heap.size ≤ w.heap.size + 1; omega) _).setCell (p := ⟨w.heap.size + 1, 2, none⟩) (by show w.heap.size ≤ w.heap.size + 1; omega) _).setCell (p := ⟨w.heap.size + 1, 3, none⟩) (by show w.heap.size ≤ w.heap.size + 1; omega) _)
  have r0 := cell_of_row Ws _ 0 _ 23 (0, 0) gs
  have r1 := cell_of_row Ws _ 1 _ 23 (0, 0) gs
  have r2 := cell_of_row Ws _ 2 _ 23 (0, 0) gs
  have r3 := cell_of_row Ws _ 3 _ 23 (0, 0) gs
  rw [hWs]
  exact bodyPost_ret (v := .agg #[.int .i64 X, .int .i64 Y, .int .i64 v, .int .i64 h]) (by simp [results, Try.results20, go_sem, r0, r1, r2, r3]) rfl ⟨rfl, hbs⟩
end Go.Proofs.Ytpnihjomemojlaa
