/- Package probe: Separated, for nodes without uncertainty. -/
import Derived.Test.YtdmecagdjbjgjaaR11
namespace Go.Proofs.Ytdmecagdjbjgjaa
open Go.RowKit

theorem three_allocs (w : World) (a b h c d k : Int) (W : World) (hW : ((w.alloc (.cells #[.int .i64 0, .int .i64 a, .int .i64 b, .int .i64 h, .int .i64 0, .int .i64 0] 45)).alloc (.cells #[.int .i64 0, .int .i64 c, .int .i64 d, .int .i64 k, .int .i64 0, .int .i64 0] 45)).alloc (.cells #[.slice (some ⟨w.heap.size, 0, none⟩) 1 1, .slice (some ⟨w.heap.size + 1, 0, none⟩) 1 1] 83) = W) :
    Node1 W w.heap.size a b h ∧ Node1 W (w.heap.size + 1) c d k ∧ w.heap.size + 1 + 1 < W.heap.size ∧ W.cell? ⟨w.heap.size + 1 + 1, 0, none⟩ = some (.slice (some ⟨w.heap.size, 0, none⟩) 1 1) ∧ W.cell? ⟨w.heap.size + 1 + 1, 1, none⟩ = some (.slice (some ⟨w.heap.size + 1, 0, none⟩) 1 1) ∧ Below w.heap.size w W := by
  obtain ⟨u0, e0⟩ : ∃ u, w.alloc (.cells #[.int .i64 0, .int .i64 a, .int .i64 b, .int .i64 h, .int .i64 0, .int .i64 0] 45) = u := ⟨_, rfl⟩
  rw [e0] at hW
  obtain ⟨u1, e1⟩ : ∃ u, u0.alloc (.cells #[.int .i64 0, .int .i64 c, .int .i64 d, .int .i64 k, .int .i64 0, .int .i64 0] 45) = u := ⟨_, rfl⟩
  rw [e1] at hW
  have s0 : u0.heap.size = w.heap.size + 1 := by rw [← e0]; simp
  have s1 : u1.heap.size = w.heap.size + 1 + 1 := by rw [← e1]; simp [s0]
  have s2 : W.heap.size = w.heap.size + 1 + 1 + 1 := by rw [← hW]; simp [s1]
  have b0 : Below w.heap.size w u0 := by rw [← e0]; exact (Below.refl _ _).alloc (Nat.le_refl _) _
  have b1 : Below u0.heap.size u0 u1 := by rw [← e1]; exact (Below.refl _ _).alloc (Nat.le_refl _) _
  have b2 : Below u1.heap.size u1 W := by rw [← hW]; exact (Below.refl _ _).alloc (Nat.le_refl _) _
  have n0 : Node1 u0 w.heap.size a b h := ⟨by omega, by rw [← e0]; exact heap_alloc_new _ _⟩
  have n1 : Node1 u1 (w.heap.size + 1) c d k := ⟨by omega, by rw [← s0, ← e1]; exact heap_alloc_new _ _⟩
  have y : W.heap[w.heap.size + 1 + 1]? = some (.cells #[.slice (some ⟨w.heap.size, 0, none⟩) 1 1, .slice (some ⟨w.heap.size + 1, 0, none⟩) 1 1] 83 (0, 0)) := by rw [← s1, ← hW]; exact heap_alloc_new _ _
  exact ⟨(n0.below b1).below b2, n1.below b2, by omega, cell_of_row W _ 0 _ 83 (0, 0) y, cell_of_row W _ 1 _ 83 (0, 0) y, (b0.trans (b1.mono (by omega))).trans (b2.mono (by omega))⟩

set_option maxRecDepth 100000 in
set_option maxHeartbeats 8000000 in
theorem Separated_any (a b h c d k lat vert : Int) (w : World) (h1 : Bd 1000000 a) (h2 : Bd 1000000 b) (h3 : Bd 1000000 c) (h4 : Bd 1000000 d) (h5 : 0 ≤ h ∧ h ≤ 60000) (h6 : 0 ≤ k ∧ k ≤ 60000) (h7 : 0 ≤ lat ∧ lat ≤ 1000000) (h8 : 0 ≤ vert ∧ vert ≤ 60000) :
    Calls Try.prog 12 #[.agg #[.int .i64 0, .int .i64 a, .int .i64 b, .int .i64 h, .int .i64 0, .int .i64 0], .agg #[.int .i64 0, .int .i64 c, .int .i64 d, .int .i64 k, .int .i64 0, .int .i64 0], .agg #[.int .i64 lat, .int .i64 vert]] w fun E w' => E = .returned (.tuple #[.bool (sepB a b h c d k lat vert), .int .i64 0]) ∧ Below w.heap.size w w' := by
  have HSE := Lib.hid (fun W => separated_any a b h c d k lat vert W h1 h2 h3 h4 h5 h6 h7.1)
  have HCK := Lib.hid (fun (g ga gb : Nat) W hna hnb hg hc0 hc1 => check2_any a b h c d k lat vert g ga gb W h1 h2 h3 h4 h5 h6 h7 h8 hna hnb hg hc0 hc1)
  generalize sepB a b h c d k lat vert = z at *
  clear h1 h2 h3 h4 h5 h6 h7 h8
  obtain ⟨u0, hw0⟩ : ∃ W, w.alloc (.cells #[.int .i64 0, .int .i64 a, .int .i64 b, .int .i64 h, .int .i64 0, .int .i64 0] 45) = W := ⟨_, rfl⟩
  obtain ⟨u1, hw1⟩ : ∃ W, u0.alloc (.cells #[.int .i64 0, .int .i64 c, .int .i64 d, .int .i64 k, .int .i64 0, .int .i64 0] 45) = W := ⟨_, rfl⟩
  obtain ⟨w3, hw2⟩ : ∃ W, u1.alloc (.cells #[.int .i64 lat, .int .i64 vert] 27) = W := ⟨_, rfl⟩
  have hbx0 : Below w.heap.size w u0 := by rw [← hw0]; exact (Below.refl _ _).alloc (Nat.le_refl _) _
  have hsx0 : u0.heap.size = w.heap.size + 1 := by rw [← hw0]; simp
  have hbx1 : Below u0.heap.size u0 u1 := by rw [← hw1]; exact (Below.refl _ _).alloc (Nat.le_refl _) _
  have hsx1 : u1.heap.size = u0.heap.size + 1 := by rw [← hw1]; simp
  have hbx2 : Below u1.heap.size u1 w3 := by rw [← hw2]; exact (Below.refl _ _).alloc (Nat.le_refl _) _
  have hsx2 : w3.heap.size = u1.heap.size + 1 := by rw [← hw2]; simp
  have hbw : Below w.heap.size w w3 := (hbx0.trans (hbx1.mono hbx0.size)).trans (hbx2.mono (by omega))
  have hy0 : w3.heap[w.heap.size]? = some (.cells #[.int .i64 0, .int .i64 a, .int .i64 b, .int .i64 h, .int .i64 0, .int .i64 0] 45 (0, 0)) := (hbx2.block w.heap.size (by omega)).trans ((hbx1.block w.heap.size (by omega)).trans (by rw [← hw0]; exact heap_alloc_new _ _))
  have hy1 : w3.heap[u0.heap.size]? = some (.cells #[.int .i64 0, .int .i64 c, .int .i64 d, .int .i64 k, .int .i64 0, .int .i64 0] 45 (0, 0)) := (hbx2.block u0.heap.size (by omega)).trans (by rw [← hw1]; exact heap_alloc_new _ _)
  have hy2 : w3.heap[u1.heap.size]? = some (.cells #[.int .i64 lat, .int .i64 vert] 27 (0, 0)) := by rw [← hw2]; exact heap_alloc_new _ _
  have hl0 : w.heap.size < w3.heap.size := by omega
  have hl1 : u0.heap.size < w3.heap.size := by omega
  have hl2 : u1.heap.size < w3.heap.size := by omega
  obtain ⟨g0, hg0⟩ : ∃ g, w.heap.size = g := ⟨_, rfl⟩
  obtain ⟨g1, hg1⟩ : ∃ g, u0.heap.size = g := ⟨_, rfl⟩
  obtain ⟨g2, hg2⟩ : ∃ g, u1.heap.size = g := ⟨_, rfl⟩
  rw [hg0] at hy0 hl0
  rw [hg1] at hy1 hl1
  rw [hg2] at hy2 hl2
  have HBW := Lib.hid hbw
  have HG := Lib.hid hg0
  clear hbw hsx0 hsx1 hsx2 hbx0 hbx1 hbx2
  have HY0 := Lib.hid hy0
  have HY1 := Lib.hid hy1
  have HY2 := Lib.hid hy2
  have A0 : ∀ j u, (#[Value.int .i64 0, .int .i64 a, .int .i64 b, .int .i64 h, .int .i64 0, .int .i64 0] : Array Value)[j]? = some u → w3.cell? ⟨g0, j, none⟩ = some u := fun j u hj => (cell_of_row w3 _ j _ 45 (0, 0) hy0).trans hj
  have a0 := A0 0 _ rfl
  have a1 := A0 1 _ rfl
  have a2 := A0 2 _ rfl
  have a3 := A0 3 _ rfl
  have a4 := A0 4 _ rfl
  have a5 := A0 5 _ rfl
  have B0 : ∀ j u, (#[Value.int .i64 0, .int .i64 c, .int .i64 d, .int .i64 k, .int .i64 0, .int .i64 0] : Array Value)[j]? = some u → w3.cell? ⟨g1, j, none⟩ = some u := fun j u hj => (cell_of_row w3 _ j _ 45 (0, 0) hy1).trans hj
  have b0 := B0 0 _ rfl
  have b1 := B0 1 _ rfl
  have b2 := B0 2 _ rfl
  have b3 := B0 3 _ rfl
  have b4 := B0 4 _ rfl
  have b5 := B0 5 _ rfl
  have c0 : w3.cell? ⟨g2, 0, none⟩ = some (.int .i64 lat) := cell_of_row w3 _ 0 _ 27 (0, 0) hy2
  have c1 : w3.cell? ⟨g2, 1, none⟩ = some (.int .i64 vert) := cell_of_row w3 _ 1 _ 27 (0, 0) hy2
  clear A0 B0 hy0 hy1 hy2
  go_enter Try.func12, Try.ntmps12
  go_wp2_with (first
    | (go_at_call 27; go_loud (have T := three_allocs w3 a b h c d k _ rfl; refine (HCK.out _ _ _ _ T.1 T.2.1 T.2.2.1 T.2.2.2.1 T.2.2.2.2.1).mono ?_; rintro E w6 ⟨rfl, hb6⟩; have hT := T.2.2.2.2.2.trans (hb6.mono T.2.2.2.2.2.size); clear T hb6; have y0 := (hT.block g0 hl0).trans HY0.out; have y1 := (hT.block g1 hl1).trans HY1.out; have y2 := (hT.block g2 hl2).trans HY2.out; have m00 : w6.cell? ⟨g0, 0, none⟩ = some (.int .i64 0) := cell_of_row w6 _ 0 _ 45 (0, 0) y0; have m01 : w6.cell? ⟨g0, 1, none⟩ = some (.int .i64 a) := cell_of_row w6 _ 1 _ 45 (0, 0) y0; have m02 : w6.cell? ⟨g0, 2, none⟩ = some (.int .i64 b) := cell_of_row w6 _ 2 _ 45 (0, 0) y0; have m03 : w6.cell? ⟨g0, 3, none⟩ = some (.int .i64 h) := cell_of_row w6 _ 3 _ 45 (0, 0) y0; have m04 : w6.cell? ⟨g0, 4, none⟩ = some (.int .i64 0) := cell_of_row w6 _ 4 _ 45 (0, 0) y0; have m05 : w6.cell? ⟨g0, 5, none⟩ = some (.int .i64 0) := cell_of_row w6 _ 5 _ 45 (0, 0) y0; have m10 : w6.cell? ⟨g1, 0, none⟩ = some (.int .i64 0) := cell_of_row w6 _ 0 _ 45 (0, 0) y1; have m11 : w6.cell? ⟨g1, 1, none⟩ = some (.int .i64 c) := cell_of_row w6 _ 1 _ 45 (0, 0) y1; have m12 : w6.cell? ⟨g1, 2, none⟩ = some (.int .i64 d) := cell_of_row w6 _ 2 _ 45 (0, 0) y1; have m13 : w6.cell? ⟨g1, 3, none⟩ = some (.int .i64 k) := cell_of_row w6 _ 3 _ 45 (0, 0) y1; have m14 : w6.cell? ⟨g1, 4, none⟩ = some (.int .i64 0) := cell_of_row w6 _ 4 _ 45 (0, 0) y1; have m15 : w6.cell? ⟨g1, 5, none⟩ = some (.int .i64 0) := cell_of_row w6 _ 5 _ 45 (0, 0) y1; have m20 : w6.cell? ⟨g2, 0, none⟩ = some (.int .i64 lat) := cell_of_row w6 _ 0 _ 27 (0, 0) y2; have m21 : w6.cell? ⟨g2, 1, none⟩ = some (.int .i64 vert) := cell_of_row w6 _ 1 _ 27 (0, 0) y2; clear y0 y1 y2; have HB6 := Lib.hid (HBW.out.trans (hT.mono HBW.out.size)); clear hT))
    | (go_at_call 28; go_loud (refine (HSE.out _).mono ?_; rintro E w7 ⟨rfl, hb7⟩; have HB7 := Lib.hid (HB6.out.trans (hb7.mono HB6.out.size)); clear hb7)))
  all_goals
    go_ret2
    exact ⟨rfl, by first | exact HB7.out | (rw [← HG.out]; exact HB7.out)⟩
end Go.Proofs.Ytdmecagdjbjgjaa
