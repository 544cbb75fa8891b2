/- Package polygon: edges with a common point. -/
import Derived.Test.YtdmecagdjbjgjaaR3
namespace Go.Proofs.Ytdmecagdjbjgjaa
open Go.RowKit

def cmI (a b c d e f g h : Int) : Bool := crI a b c d e f g h || onI a b c d e f || onI a b c d g h || onI e f g h a b || onI e f g h c d
set_option maxRecDepth 100000 in
set_option maxHeartbeats 8000000 in
theorem Common_any (a b c d e f g h : Int) (w : World) (h1 : Bd 1000000 a) (h2 : Bd 1000000 b) (h3 : Bd 1000000 c) (h4 : Bd 1000000 d) (h5 : Bd 1000000 e) (h6 : Bd 1000000 f) (h7 : Bd 1000000 g) (h8 : Bd 1000000 h) :
    Calls Try.prog 60 #[.agg #[.int .i64 a, .int .i64 b], .agg #[.int .i64 c, .int .i64 d], .agg #[.int .i64 e, .int .i64 f], .agg #[.int .i64 g, .int .i64 h]] w fun E w' => E = .returned (.bool (cmI a b c d e f g h)) ∧ Below w.heap.size w w' := by
  have HC := Lib.hid (fun W => crosses_any a b c d e f g h W h1 h2 h3 h4 h5 h6 h7 h8)
  have HO1 := Lib.hid (fun W => on_any a b c d e f W h1 h2 h3 h4 h5 h6)
  have HO2 := Lib.hid (fun W => on_any a b c d g h W h1 h2 h3 h4 h7 h8)
  have HO3 := Lib.hid (fun W => on_any e f g h a b W h5 h6 h7 h8 h1 h2)
  have HO4 := Lib.hid (fun W => on_any e f g h c d W h5 h6 h7 h8 h3 h4)
  have HR : Hid (cmI a b c d e f g h = (crI a b c d e f g h || onI a b c d e f || onI a b c d g h || onI e f g h a b || onI e f g h c d)) := Lib.hid rfl
  clear h1 h2 h3 h4 h5 h6 h7 h8
  generalize cmI a b c d e f g h = r at *
  generalize crI a b c d e f g h = q0 at *
  generalize onI a b c d e f = q1 at *
  generalize onI a b c d g h = q2 at *
  generalize onI e f g h a b = q3 at *
  generalize onI e f g h c d = q4 at *
  obtain ⟨u0, hw0⟩ : ∃ W, w.alloc (.cells #[.int .i64 a, .int .i64 b] 39) = W := ⟨_, rfl⟩
  obtain ⟨u1, hw1⟩ : ∃ W, u0.alloc (.cells #[.int .i64 c, .int .i64 d] 39) = W := ⟨_, rfl⟩
  obtain ⟨u2, hw2⟩ : ∃ W, u1.alloc (.cells #[.int .i64 e, .int .i64 f] 39) = W := ⟨_, rfl⟩
  obtain ⟨w3, hw3⟩ : ∃ W, u2.alloc (.cells #[.int .i64 g, .int .i64 h] 39) = W := ⟨_, rfl⟩
  obtain ⟨g0, hg0⟩ : ∃ g, w.heap.size = g := ⟨_, rfl⟩
  obtain ⟨g1, hg1⟩ : ∃ g, u0.heap.size = g := ⟨_, rfl⟩
  obtain ⟨g2, hg2⟩ : ∃ g, u1.heap.size = g := ⟨_, rfl⟩
  obtain ⟨g3, hg3⟩ : ∃ g, u2.heap.size = g := ⟨_, rfl⟩
  have hbx0 : Below w.heap.size w u0 := by rw [← hw0]; exact (Below.refl _ _).alloc (Nat.le_refl _) _
  have hsx0 : u0.heap.size = w.heap.size + 1 := by rw [← hw0]; simp
  have hbx1 : Below u0.heap.size u0 u1 := by rw [← hw1]; exact (Below.refl _ _).alloc (Nat.le_refl _) _
  have hsx1 : u1.heap.size = u0.heap.size + 1 := by rw [← hw1]; simp
  have hbx2 : Below u1.heap.size u1 u2 := by rw [← hw2]; exact (Below.refl _ _).alloc (Nat.le_refl _) _
  have hsx2 : u2.heap.size = u1.heap.size + 1 := by rw [← hw2]; simp
  have hbx3 : Below u2.heap.size u2 w3 := by rw [← hw3]; exact (Below.refl _ _).alloc (Nat.le_refl _) _
  have hsx3 : w3.heap.size = u2.heap.size + 1 := by rw [← hw3]; simp
  have hbw : Below w.heap.size w w3 := ((hbx0.trans (hbx1.mono hbx0.size)).trans (hbx2.mono (by omega))).trans (hbx3.mono (by omega))
  have hx0 : u0.heap[w.heap.size]? = some (.cells #[.int .i64 a, .int .i64 b] 39 (0, 0)) := by rw [← hw0]; exact heap_alloc_new _ _
  have hy0 : w3.heap[w.heap.size]? = some (.cells #[.int .i64 a, .int .i64 b] 39 (0, 0)) := (hbx3.block w.heap.size (by omega)).trans ((hbx2.block w.heap.size (by omega)).trans ((hbx1.block w.heap.size (by omega)).trans (hx0)))
  have hc00 : w3.cell? ⟨w.heap.size, 0, none⟩ = some (.int .i64 a) := cell_of_row w3 _ 0 _ 39 (0, 0) hy0
  have hc01 : w3.cell? ⟨w.heap.size, 1, none⟩ = some (.int .i64 b) := cell_of_row w3 _ 1 _ 39 (0, 0) hy0
  have hl0 : w.heap.size < w3.heap.size := by omega
  have hx1 : u1.heap[u0.heap.size]? = some (.cells #[.int .i64 c, .int .i64 d] 39 (0, 0)) := by rw [← hw1]; exact heap_alloc_new _ _
  have hy1 : w3.heap[u0.heap.size]? = some (.cells #[.int .i64 c, .int .i64 d] 39 (0, 0)) := (hbx3.block u0.heap.size (by omega)).trans ((hbx2.block u0.heap.size (by omega)).trans (hx1))
  have hc10 : w3.cell? ⟨u0.heap.size, 0, none⟩ = some (.int .i64 c) := cell_of_row w3 _ 0 _ 39 (0, 0) hy1
  have hc11 : w3.cell? ⟨u0.heap.size, 1, none⟩ = some (.int .i64 d) := cell_of_row w3 _ 1 _ 39 (0, 0) hy1
  have hl1 : u0.heap.size < w3.heap.size := by omega
  have hx2 : u2.heap[u1.heap.size]? = some (.cells #[.int .i64 e, .int .i64 f] 39 (0, 0)) := by rw [← hw2]; exact heap_alloc_new _ _
  have hy2 : w3.heap[u1.heap.size]? = some (.cells #[.int .i64 e, .int .i64 f] 39 (0, 0)) := (hbx3.block u1.heap.size (by omega)).trans (hx2)
  have hc20 : w3.cell? ⟨u1.heap.size, 0, none⟩ = some (.int .i64 e) := cell_of_row w3 _ 0 _ 39 (0, 0) hy2
  have hc21 : w3.cell? ⟨u1.heap.size, 1, none⟩ = some (.int .i64 f) := cell_of_row w3 _ 1 _ 39 (0, 0) hy2
  have hl2 : u1.heap.size < w3.heap.size := by omega
  have hx3 : w3.heap[u2.heap.size]? = some (.cells #[.int .i64 g, .int .i64 h] 39 (0, 0)) := by rw [← hw3]; exact heap_alloc_new _ _
  have hy3 : w3.heap[u2.heap.size]? = some (.cells #[.int .i64 g, .int .i64 h] 39 (0, 0)) := hx3
  have hc30 : w3.cell? ⟨u2.heap.size, 0, none⟩ = some (.int .i64 g) := cell_of_row w3 _ 0 _ 39 (0, 0) hy3
  have hc31 : w3.cell? ⟨u2.heap.size, 1, none⟩ = some (.int .i64 h) := cell_of_row w3 _ 1 _ 39 (0, 0) hy3
  have hl3 : u2.heap.size < w3.heap.size := by omega
  clear hx0 hy0 hbx0 hx1 hy1 hbx1 hx2 hy2 hbx2 hx3 hy3 hbx3
  rw [hg0] at hc00 hc01 hl0
  rw [hg1] at hc10 hc11 hl1
  rw [hg2] at hc20 hc21 hl2
  rw [hg3] at hc30 hc31 hl3
  have hs0 : Below w3.heap.size w3 w3.drew ∧ w3.drew.cell? ⟨g0, 0, none⟩ = some (.int .i64 a) ∧ w3.drew.cell? ⟨g0, 1, none⟩ = some (.int .i64 b) ∧ w3.drew.cell? ⟨g1, 0, none⟩ = some (.int .i64 c) ∧ w3.drew.cell? ⟨g1, 1, none⟩ = some (.int .i64 d) ∧ w3.drew.cell? ⟨g2, 0, none⟩ = some (.int .i64 e) ∧ w3.drew.cell? ⟨g2, 1, none⟩ = some (.int .i64 f) ∧ w3.drew.cell? ⟨g3, 0, none⟩ = some (.int .i64 g) ∧ w3.drew.cell? ⟨g3, 1, none⟩ = some (.int .i64 h) := ⟨(Below.refl _ _).drew, hc00, hc01, hc10, hc11, hc20, hc21, hc30, hc31⟩
  have HBW := Lib.hid hbw
  clear hbw hsx0 hsx1 hsx2 hsx3
  have HSI : Hid (Below w3.heap.size w3 w3 ∧ w3.cell? ⟨g0, 0, none⟩ = some (.int .i64 a) ∧ w3.cell? ⟨g0, 1, none⟩ = some (.int .i64 b) ∧ w3.cell? ⟨g1, 0, none⟩ = some (.int .i64 c) ∧ w3.cell? ⟨g1, 1, none⟩ = some (.int .i64 d) ∧ w3.cell? ⟨g2, 0, none⟩ = some (.int .i64 e) ∧ w3.cell? ⟨g2, 1, none⟩ = some (.int .i64 f) ∧ w3.cell? ⟨g3, 0, none⟩ = some (.int .i64 g) ∧ w3.cell? ⟨g3, 1, none⟩ = some (.int .i64 h)) := Lib.hid ⟨Below.refl _ _, hc00, hc01, hc10, hc11, hc20, hc21, hc30, hc31⟩
  clear hs0
  cases q0 <;> cases q1 <;> cases q2 <;> cases q3
  all_goals
    go_enter Try.func60, Try.ntmps60
    go_wp2_with (first
      | (go_at_call 79; go_loud (refine (HC.out _).mono ?_; rintro E w1_ ⟨rfl, hb⟩; have HS1 := Lib.hid (k4_below hb hl0 hl1 hl2 hl3 HSI.out); obtain ⟨_, e1_00, e1_01, e1_10, e1_11, e1_20, e1_21, e1_30, e1_31⟩ := HS1.out; clear hb HC))
      | (go_at_call 80; go_loud (first
          | (refine (HO1.out _).mono ?_; rintro E w2_ ⟨rfl, hb⟩; have HS2 := Lib.hid (k4_below hb hl0 hl1 hl2 hl3 HS1.out); obtain ⟨_, e2_00, e2_01, e2_10, e2_11, e2_20, e2_21, e2_30, e2_31⟩ := HS2.out; clear hb HO1)
          | (refine (HO2.out _).mono ?_; rintro E w3_ ⟨rfl, hb⟩; have HS3 := Lib.hid (k4_below hb hl0 hl1 hl2 hl3 HS2.out); obtain ⟨_, e3_00, e3_01, e3_10, e3_11, e3_20, e3_21, e3_30, e3_31⟩ := HS3.out; clear hb HO2)
          | (refine (HO3.out _).mono ?_; rintro E w4_ ⟨rfl, hb⟩; have HS4 := Lib.hid (k4_below hb hl0 hl1 hl2 hl3 HS3.out); obtain ⟨_, e4_00, e4_01, e4_10, e4_11, e4_20, e4_21, e4_30, e4_31⟩ := HS4.out; clear hb HO3)
          | (refine (HO4.out _).mono ?_; rintro E w5_ ⟨rfl, hb⟩; have HS5 := Lib.hid (k4_below hb hl0 hl1 hl2 hl3 HS4.out); obtain ⟨_, e5_00, e5_01, e5_10, e5_11, e5_20, e5_21, e5_30, e5_31⟩ := HS5.out; clear hb HO4))))
    all_goals
      go_ret
      refine ⟨ret_bool (by rw [HR.out]; simp), ?_⟩
      first
        | exact k4_out HBW.out HS5.out
        | exact k4_out HBW.out HS4.out
        | exact k4_out HBW.out HS3.out
        | exact k4_out HBW.out HS2.out
        | exact k4_out HBW.out HS1.out
        | (rw [← hg0]; exact k4_out HBW.out HS5.out)
        | (rw [← hg0]; exact k4_out HBW.out HS4.out)
        | (rw [← hg0]; exact k4_out HBW.out HS3.out)
        | (rw [← hg0]; exact k4_out HBW.out HS2.out)
        | (rw [← hg0]; exact k4_out HBW.out HS1.out)
end Go.Proofs.Ytdmecagdjbjgjaa
