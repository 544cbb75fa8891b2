/- Package probe: separated, for nodes without uncertainty. -/
import Derived.Test.YtdmecagdjbjgjaaR2
namespace Go.Proofs.Ytdmecagdjbjgjaa
open Go.RowKit

def sepB (a b h c d k lat vert : Int) : Bool := decide (lat * lat ≤ sqI a b c d) || decide (vert ≤ max (h - k) (k - h))
set_option maxRecDepth 100000 in
set_option maxHeartbeats 8000000 in
theorem separated_any (a b h c d k lat vert : Int) (w : World) (h1 : Bd 1000000 a) (h2 : Bd 1000000 b) (h3 : Bd 1000000 c) (h4 : Bd 1000000 d) (h5 : 0 ≤ h ∧ h ≤ 60000) (h6 : 0 ≤ k ∧ k ≤ 60000) (h7 : 0 ≤ lat) :
    Calls Try.prog 28 #[.agg #[.int .i64 0, .int .i64 a, .int .i64 b, .int .i64 h, .int .i64 0, .int .i64 0], .agg #[.int .i64 0, .int .i64 c, .int .i64 d, .int .i64 k, .int .i64 0, .int .i64 0], .agg #[.int .i64 lat, .int .i64 vert]] w fun E w' => E = .returned (.bool (sepB a b h c d k lat vert)) ∧ Below w.heap.size w w' := by
  have HD := Lib.hid (fun W => Distance_any a b c d W h1 h2 h3 h4)
  have HR : Hid (sepB a b h c d k lat vert = (decide (lat * lat ≤ sqI a b c d) || decide (vert ≤ max (h - k) (k - h)))) := Lib.hid rfl
  have HL := Lib.hid h7
  generalize sepB a b h c d k lat vert = z at *
  generalize sqI a b c d = sq at *
  obtain ⟨p1, p2⟩ := h5
  obtain ⟨q1, q2⟩ := h6
  clear h1 h2 h3 h4 h7
  obtain ⟨u0, hw0⟩ : ∃ W, w.alloc (.cells #[.int .i64 0, .int .i64 a, .int .i64 b, .int .i64 h, .int .i64 0, .int .i64 0] 45) = W := ⟨_, rfl⟩
  obtain ⟨u1, hw1⟩ : ∃ W, u0.alloc (.cells #[.int .i64 0, .int .i64 c, .int .i64 d, .int .i64 k, .int .i64 0, .int .i64 0] 45) = W := ⟨_, rfl⟩
  obtain ⟨w3, hw2⟩ : ∃ W, u1.alloc (.cells #[.int .i64 lat, .int .i64 vert] 27) = W := ⟨_, rfl⟩
  have hbx0 : Below w.heap.size w u0 := by rw [← hw0]; exact (Below.refl _ _).alloc (Nat.le_refl _) _
  have hsx0 : u0.heap.size = w.heap.size + 1 := by rw [← hw0]; simp
  have hbx1 : Below u0.heap.size u0 u1 := by rw [← hw1]; exact (Below.refl _ _).alloc (Nat.le_refl _) _
  have hsx1 : u1.heap.size = u0.heap.size + 1 := by rw [← hw1]; simp
  have hbx2 : Below u1.heap.size u1 w3 := by rw [← hw2]; exact (Below.refl _ _).alloc (Nat.le_refl _) _
  have hsx2 : w3.heap.size = u1.heap.size + 1 := by rw [← hw2]; simp
  have hbw : Below w.heap.size w w3 := (hbx0.trans (hbx1.mono hbx0.size)).trans (hbx2.mono (by omega))
  have hy0 : w3.heap[w.heap.size]? = some (.cells #[.int .i64 0, .int .i64 a, .int .i64 b, .int .i64 h, .int .i64 0, .int .i64 0] 45 (0, 0)) := (hbx2.block w.heap.size (by omega)).trans ((hbx1.block w.heap.size (by omega)).trans (by rw [← hw0]; exact heap_alloc_new _ _))
  have hy1 : w3.heap[u0.heap.size]? = some (.cells #[.int .i64 0, .int .i64 c, .int .i64 d, .int .i64 k, .int .i64 0, .int .i64 0] 45 (0, 0)) := (hbx2.block u0.heap.size (by omega)).trans (by rw [← hw1]; exact heap_alloc_new _ _)
  have hy2 : w3.heap[u1.heap.size]? = some (.cells #[.int .i64 lat, .int .i64 vert] 27 (0, 0)) := by rw [← hw2]; exact heap_alloc_new _ _
  have hl0 : w.heap.size < w3.heap.size := by omega
  have hl1 : u0.heap.size < w3.heap.size := by omega
  have hl2 : u1.heap.size < w3.heap.size := by omega
  obtain ⟨g0, hg0⟩ : ∃ g, w.heap.size = g := ⟨_, rfl⟩
  obtain ⟨g1, hg1⟩ : ∃ g, u0.heap.size = g := ⟨_, rfl⟩
  obtain ⟨g2, hg2⟩ : ∃ g, u1.heap.size = g := ⟨_, rfl⟩
  rw [hg0] at hy0 hl0
  rw [hg1] at hy1 hl1
  rw [hg2] at hy2 hl2
  have HBW := Lib.hid hbw
  have HG := Lib.hid hg0
  clear hbw hsx0 hsx1 hsx2 hbx0 hbx1 hbx2
  have a1 : w3.cell? ⟨g0, 1, none⟩ = some (.int .i64 a) := cell_of_row w3 _ 1 _ 45 (0, 0) hy0
  have a2 : w3.cell? ⟨g0, 2, none⟩ = some (.int .i64 b) := cell_of_row w3 _ 2 _ 45 (0, 0) hy0
  have b1 : w3.cell? ⟨g1, 1, none⟩ = some (.int .i64 c) := cell_of_row w3 _ 1 _ 45 (0, 0) hy1
  have b2 : w3.cell? ⟨g1, 2, none⟩ = some (.int .i64 d) := cell_of_row w3 _ 2 _ 45 (0, 0) hy1
  have HY0 := Lib.hid hy0
  have HY1 := Lib.hid hy1
  have HY2 := Lib.hid hy2
  clear hy0 hy1 hy2
  go_enter Try.func28, Try.ntmps28
  go_wp2_with (go_at_call 45; go_loud (refine (HD.out _).mono ?_; rintro E w4 ⟨⟨r, s, rfl, hr⟩, hb4⟩; have HRo := Lib.hid hr; have r0 := hr.1; have r1 := hr.2.2.2; clear hr; have e0 := (hb4.block g0 hl0).trans HY0.out; have e1 := (hb4.block g1 hl1).trans HY1.out; have e2 := (hb4.block g2 hl2).trans HY2.out; have c3 : w4.cell? ⟨g0, 3, none⟩ = some (.int .i64 h) := cell_of_row w4 _ 3 _ 45 (0, 0) e0; have c4 : w4.cell? ⟨g0, 4, none⟩ = some (.int .i64 0) := cell_of_row w4 _ 4 _ 45 (0, 0) e0; have c5 : w4.cell? ⟨g0, 5, none⟩ = some (.int .i64 0) := cell_of_row w4 _ 5 _ 45 (0, 0) e0; have d3 : w4.cell? ⟨g1, 3, none⟩ = some (.int .i64 k) := cell_of_row w4 _ 3 _ 45 (0, 0) e1; have d4 : w4.cell? ⟨g1, 4, none⟩ = some (.int .i64 0) := cell_of_row w4 _ 4 _ 45 (0, 0) e1; have d5 : w4.cell? ⟨g1, 5, none⟩ = some (.int .i64 0) := cell_of_row w4 _ 5 _ 45 (0, 0) e1; have f0 : w4.cell? ⟨g2, 0, none⟩ = some (.int .i64 lat) := cell_of_row w4 _ 0 _ 27 (0, 0) e2; have f1 : w4.cell? ⟨g2, 1, none⟩ = some (.int .i64 vert) := cell_of_row w4 _ 1 _ 27 (0, 0) e2; clear e0 e1 e2; have HB4 := Lib.hid (HBW.out.trans (hb4.mono HBW.out.size)); clear hb4))
  all_goals
    go_ret
    refine ⟨ret_bool ?_, by first | exact HB4.out | (rw [← HG.out]; exact HB4.out)⟩
    have hge := root_ge HRo.out HL.out
    rw [HR.out]
    simp only [Bool.or_eq_true, decide_eq_true_eq, true_iff]
    first
      | exact .inl (hge.1 (by omega))
      | (rw [← hge]; omega)
      | (rw [← hge]; constructor <;> intro hh <;> omega)
      | exact or_congr hge Iff.rfl
      | (rw [← hge]; done)
end Go.Proofs.Ytdmecagdjbjgjaa
