/- Packages plane and polygon: turns, and whether two edges have a common point. -/
import Derived.Test.YtdmecagdjbjgjaaR1
namespace Go.Proofs.Ytdmecagdjbjgjaa
open Go.RowKit

theorem sgI_cases (n : Int) : sgI n = 1 ∧ 0 < n ∨ sgI n = -1 ∧ n < 0 ∨ sgI n = 0 ∧ n = 0 := by
  unfold sgI
  split
  · exact .inl ⟨rfl, by assumption⟩
  · split
    · exact .inr (.inl ⟨rfl, by assumption⟩)
    · exact .inr (.inr ⟨rfl, by omega⟩)
theorem sgI_bd (n : Int) : -1 ≤ sgI n ∧ sgI n ≤ 1 := by rcases sgI_cases n with h | h | h <;> omega

def trI (a b c d e f : Int) : Int := sgI (turnI a b c d e f)
theorem trI_bd (a b c d e f : Int) : -1 ≤ trI a b c d e f ∧ trI a b c d e f ≤ 1 := sgI_bd _

theorem k3_below {w3 W W' : World} {g0 g1 g2 : Nat} {x0 x1 x2 x3 x4 x5 : Value} (hb : Below W.heap.size W W') (hg0 : g0 < w3.heap.size) (hg1 : g1 < w3.heap.size) (hg2 : g2 < w3.heap.size) (hs : Below w3.heap.size w3 W ∧ (W).cell? ⟨g0, 0, none⟩ = some x0 ∧ (W).cell? ⟨g0, 1, none⟩ = some x1 ∧ (W).cell? ⟨g1, 0, none⟩ = some x2 ∧ (W).cell? ⟨g1, 1, none⟩ = some x3 ∧ (W).cell? ⟨g2, 0, none⟩ = some x4 ∧ (W).cell? ⟨g2, 1, none⟩ = some x5) : Below w3.heap.size w3 W' ∧ (W').cell? ⟨g0, 0, none⟩ = some x0 ∧ (W').cell? ⟨g0, 1, none⟩ = some x1 ∧ (W').cell? ⟨g1, 0, none⟩ = some x2 ∧ (W').cell? ⟨g1, 1, none⟩ = some x3 ∧ (W').cell? ⟨g2, 0, none⟩ = some x4 ∧ (W').cell? ⟨g2, 1, none⟩ = some x5 := by
  have hz := hs.1.size
  exact ⟨hs.1.trans (hb.mono hz), (hb.cell (p := ⟨g0, 0, none⟩) (Nat.lt_of_lt_of_le hg0 hz)).trans hs.2.1, (hb.cell (p := ⟨g0, 1, none⟩) (Nat.lt_of_lt_of_le hg0 hz)).trans hs.2.2.1, (hb.cell (p := ⟨g1, 0, none⟩) (Nat.lt_of_lt_of_le hg1 hz)).trans hs.2.2.2.1, (hb.cell (p := ⟨g1, 1, none⟩) (Nat.lt_of_lt_of_le hg1 hz)).trans hs.2.2.2.2.1, (hb.cell (p := ⟨g2, 0, none⟩) (Nat.lt_of_lt_of_le hg2 hz)).trans hs.2.2.2.2.2.1, (hb.cell (p := ⟨g2, 1, none⟩) (Nat.lt_of_lt_of_le hg2 hz)).trans hs.2.2.2.2.2.2⟩
theorem k3_out {w w3 W : World} {g0 g1 g2 : Nat} {x0 x1 x2 x3 x4 x5 : Value} (hb : Below w.heap.size w w3) (hs : Below w3.heap.size w3 W ∧ (W).cell? ⟨g0, 0, none⟩ = some x0 ∧ (W).cell? ⟨g0, 1, none⟩ = some x1 ∧ (W).cell? ⟨g1, 0, none⟩ = some x2 ∧ (W).cell? ⟨g1, 1, none⟩ = some x3 ∧ (W).cell? ⟨g2, 0, none⟩ = some x4 ∧ (W).cell? ⟨g2, 1, none⟩ = some x5) : Below w.heap.size w W := hb.trans (hs.1.mono hb.size)
theorem k4_below {w3 W W' : World} {g0 g1 g2 g3 : Nat} {x0 x1 x2 x3 x4 x5 x6 x7 : Value} (hb : Below W.heap.size W W') (hg0 : g0 < w3.heap.size) (hg1 : g1 < w3.heap.size) (hg2 : g2 < w3.heap.size) (hg3 : g3 < w3.heap.size) (hs : Below w3.heap.size w3 W ∧ (W).cell? ⟨g0, 0, none⟩ = some x0 ∧ (W).cell? ⟨g0, 1, none⟩ = some x1 ∧ (W).cell? ⟨g1, 0, none⟩ = some x2 ∧ (W).cell? ⟨g1, 1, none⟩ = some x3 ∧ (W).cell? ⟨g2, 0, none⟩ = some x4 ∧ (W).cell? ⟨g2, 1, none⟩ = some x5 ∧ (W).cell? ⟨g3, 0, none⟩ = some x6 ∧ (W).cell? ⟨g3, 1, none⟩ = some x7) : Below w3.heap.size w3 W' ∧ (W').cell? ⟨g0, 0, none⟩ = some x0 ∧ (W').cell? ⟨g0, 1, none⟩ = some x1 ∧ (W').cell? ⟨g1, 0, none⟩ = some x2 ∧ (W').cell? ⟨g1, 1, none⟩ = some x3 ∧ (W').cell? ⟨g2, 0, none⟩ = some x4 ∧ (W').cell? ⟨g2, 1, none⟩ = some x5 ∧ (W').cell? ⟨g3, 0, none⟩ = some x6 ∧ (W').cell? ⟨g3, 1, none⟩ = some x7 := by
  have hz := hs.1.size
  exact ⟨hs.1.trans (hb.mono hz), (hb.cell (p := ⟨g0, 0, none⟩) (Nat.lt_of_lt_of_le hg0 hz)).trans hs.2.1, (hb.cell (p := ⟨g0, 1, none⟩) (Nat.lt_of_lt_of_le hg0 hz)).trans hs.2.2.1, (hb.cell (p := ⟨g1, 0, none⟩) (Nat.lt_of_lt_of_le hg1 hz)).trans hs.2.2.2.1, (hb.cell (p := ⟨g1, 1, none⟩) (Nat.lt_of_lt_of_le hg1 hz)).trans hs.2.2.2.2.1, (hb.cell (p := ⟨g2, 0, none⟩) (Nat.lt_of_lt_of_le hg2 hz)).trans hs.2.2.2.2.2.1, (hb.cell (p := ⟨g2, 1, none⟩) (Nat.lt_of_lt_of_le hg2 hz)).trans hs.2.2.2.2.2.2.1, (hb.cell (p := ⟨g3, 0, none⟩) (Nat.lt_of_lt_of_le hg3 hz)).trans hs.2.2.2.2.2.2.2.1, (hb.cell (p := ⟨g3, 1, none⟩) (Nat.lt_of_lt_of_le hg3 hz)).trans hs.2.2.2.2.2.2.2.2⟩
theorem k4_out {w w3 W : World} {g0 g1 g2 g3 : Nat} {x0 x1 x2 x3 x4 x5 x6 x7 : Value} (hb : Below w.heap.size w w3) (hs : Below w3.heap.size w3 W ∧ (W).cell? ⟨g0, 0, none⟩ = some x0 ∧ (W).cell? ⟨g0, 1, none⟩ = some x1 ∧ (W).cell? ⟨g1, 0, none⟩ = some x2 ∧ (W).cell? ⟨g1, 1, none⟩ = some x3 ∧ (W).cell? ⟨g2, 0, none⟩ = some x4 ∧ (W).cell? ⟨g2, 1, none⟩ = some x5 ∧ (W).cell? ⟨g3, 0, none⟩ = some x6 ∧ (W).cell? ⟨g3, 1, none⟩ = some x7) : Below w.heap.size w W := hb.trans (hs.1.mono hb.size)

set_option maxRecDepth 100000 in
set_option maxHeartbeats 8000000 in
theorem Turn_any (a b c d e f : Int) (w : World) (h1 : Bd 1000000 a) (h2 : Bd 1000000 b) (h3 : Bd 1000000 c) (h4 : Bd 1000000 d) (h5 : Bd 1000000 e) (h6 : Bd 1000000 f) :
    Calls Try.prog 58 #[.agg #[.int .i64 a, .int .i64 b], .agg #[.int .i64 c, .int .i64 d], .agg #[.int .i64 e, .int .i64 f]] w fun E w' => E = .returned (.int .i64 (trI a b c d e f)) ∧ Below w.heap.size w w' := by
  have HS := Lib.hid (fun W p q r s (k1 : Bd 1000000 p) (k2 : Bd 1000000 q) (k3 : Bd 1000000 r) (k4 : Bd 1000000 s) => Sub_any p q r s W (by omega) (by omega) (by omega) (by omega))
  have HC : Hid (∀ W, Calls Try.prog 77 #[.agg #[.int .i64 (c - a), .int .i64 (d - b)], .agg #[.int .i64 (e - a), .int .i64 (f - b)]] W fun E w' => E = .returned (.int .i64 (turnI a b c d e f)) ∧ Below W.heap.size W w') := Lib.hid (fun W => Cross_any (c - a) (d - b) (e - a) (f - b) W (by omega) (by omega) (by omega) (by omega))
  have HR : Hid (trI a b c d e f = sgI (turnI a b c d e f)) := Lib.hid rfl
  have HK := Lib.hid (And.intro h1 (And.intro h2 (And.intro h3 (And.intro h4 (And.intro h5 h6)))))
  generalize trI a b c d e f = r at *
  generalize turnI a b c d e f = n at *
  clear h1 h2 h3 h4 h5 h6
  obtain ⟨u0, hw0⟩ : ∃ W, w.alloc (.cells #[.int .i64 a, .int .i64 b] 39) = W := ⟨_, rfl⟩
  obtain ⟨u1, hw1⟩ : ∃ W, u0.alloc (.cells #[.int .i64 c, .int .i64 d] 39) = W := ⟨_, rfl⟩
  obtain ⟨w3, hw2⟩ : ∃ W, u1.alloc (.cells #[.int .i64 e, .int .i64 f] 39) = W := ⟨_, rfl⟩
  obtain ⟨g0, hg0⟩ : ∃ g, w.heap.size = g := ⟨_, rfl⟩
  obtain ⟨g1, hg1⟩ : ∃ g, u0.heap.size = g := ⟨_, rfl⟩
  obtain ⟨g2, hg2⟩ : ∃ g, u1.heap.size = g := ⟨_, rfl⟩
  have hbx0 : Below w.heap.size w u0 := by rw [← hw0]; exact (Below.refl _ _).alloc (Nat.le_refl _) _
  have hsx0 : u0.heap.size = w.heap.size + 1 := by rw [← hw0]; simp
  have hbx1 : Below u0.heap.size u0 u1 := by rw [← hw1]; exact (Below.refl _ _).alloc (Nat.le_refl _) _
  have hsx1 : u1.heap.size = u0.heap.size + 1 := by rw [← hw1]; simp
  have hbx2 : Below u1.heap.size u1 w3 := by rw [← hw2]; exact (Below.refl _ _).alloc (Nat.le_refl _) _
  have hsx2 : w3.heap.size = u1.heap.size + 1 := by rw [← hw2]; simp
  have hbw : Below w.heap.size w w3 := (hbx0.trans (hbx1.mono hbx0.size)).trans (hbx2.mono (by omega))
  have hx0 : u0.heap[w.heap.size]? = some (.cells #[.int .i64 a, .int .i64 b] 39 (0, 0)) := by rw [← hw0]; exact heap_alloc_new _ _
  have hy0 : w3.heap[w.heap.size]? = some (.cells #[.int .i64 a, .int .i64 b] 39 (0, 0)) := (hbx2.block w.heap.size (by omega)).trans ((hbx1.block w.heap.size (by omega)).trans (hx0))
  have hc00 : w3.cell? ⟨w.heap.size, 0, none⟩ = some (.int .i64 a) := cell_of_row w3 _ 0 _ 39 (0, 0) hy0
  have hc01 : w3.cell? ⟨w.heap.size, 1, none⟩ = some (.int .i64 b) := cell_of_row w3 _ 1 _ 39 (0, 0) hy0
  have hl0 : w.heap.size < w3.heap.size := by omega
  have hx1 : u1.heap[u0.heap.size]? = some (.cells #[.int .i64 c, .int .i64 d] 39 (0, 0)) := by rw [← hw1]; exact heap_alloc_new _ _
  have hy1 : w3.heap[u0.heap.size]? = some (.cells #[.int .i64 c, .int .i64 d] 39 (0, 0)) := (hbx2.block u0.heap.size (by omega)).trans (hx1)
  have hc10 : w3.cell? ⟨u0.heap.size, 0, none⟩ = some (.int .i64 c) := cell_of_row w3 _ 0 _ 39 (0, 0) hy1
  have hc11 : w3.cell? ⟨u0.heap.size, 1, none⟩ = some (.int .i64 d) := cell_of_row w3 _ 1 _ 39 (0, 0) hy1
  have hl1 : u0.heap.size < w3.heap.size := by omega
  have hx2 : w3.heap[u1.heap.size]? = some (.cells #[.int .i64 e, .int .i64 f] 39 (0, 0)) := by rw [← hw2]; exact heap_alloc_new _ _
  have hy2 : w3.heap[u1.heap.size]? = some (.cells #[.int .i64 e, .int .i64 f] 39 (0, 0)) := hx2
  have hc20 : w3.cell? ⟨u1.heap.size, 0, none⟩ = some (.int .i64 e) := cell_of_row w3 _ 0 _ 39 (0, 0) hy2
  have hc21 : w3.cell? ⟨u1.heap.size, 1, none⟩ = some (.int .i64 f) := cell_of_row w3 _ 1 _ 39 (0, 0) hy2
  have hl2 : u1.heap.size < w3.heap.size := by omega
  clear hx0 hy0 hbx0 hx1 hy1 hbx1 hx2 hy2 hbx2
  rw [hg0] at hc00 hc01 hl0
  rw [hg1] at hc10 hc11 hl1
  rw [hg2] at hc20 hc21 hl2
  have hs0 : Below w3.heap.size w3 w3.drew ∧ w3.drew.cell? ⟨g0, 0, none⟩ = some (.int .i64 a) ∧ w3.drew.cell? ⟨g0, 1, none⟩ = some (.int .i64 b) ∧ w3.drew.cell? ⟨g1, 0, none⟩ = some (.int .i64 c) ∧ w3.drew.cell? ⟨g1, 1, none⟩ = some (.int .i64 d) ∧ w3.drew.cell? ⟨g2, 0, none⟩ = some (.int .i64 e) ∧ w3.drew.cell? ⟨g2, 1, none⟩ = some (.int .i64 f) := ⟨(Below.refl _ _).drew, hc00, hc01, hc10, hc11, hc20, hc21⟩
  have HBW := Lib.hid hbw
  clear hbw hsx0 hsx1 hsx2
  rcases sgI_cases n with ⟨hr, hn⟩ | ⟨hr, hn⟩ | ⟨hr, hn⟩
  all_goals
    have hr := HR.out.trans hr
    subst hr
    clear HR
    go_enter Try.func58, Try.ntmps58
    go_wp2
    go_region_held3 (fun W => Below w3.heap.size w3 W ∧ W.cell? ⟨g0, 0, none⟩ = some (.int .i64 a) ∧ W.cell? ⟨g0, 1, none⟩ = some (.int .i64 b) ∧ W.cell? ⟨g1, 0, none⟩ = some (.int .i64 c) ∧ W.cell? ⟨g1, 1, none⟩ = some (.int .i64 d) ∧ W.cell? ⟨g2, 0, none⟩ = some (.int .i64 e) ∧ W.cell? ⟨g2, 1, none⟩ = some (.int .i64 f)) (first | assumption | exact k3_below (by assumption) hl0 hl1 hl2 (by assumption)) (first
      | (go_at_call 78; go_loud (refine (HS.out _ _ _ _ _ (by have := HK.out; omega) (by have := HK.out; omega) (by have := HK.out; omega) (by have := HK.out; omega)).mono ?_; rintro E w1 ⟨rfl, hb1⟩))
      | (go_at_call 77; go_loud (refine (HC.out _).mono ?_; rintro E w4 ⟨rfl, hb4⟩)))
    all_goals
      go_wp2
      all_goals first
        | (exfalso; omega)
        | (go_ret; exact ⟨rfl, k3_out HBW.out (by assumption)⟩)

theorem ret_bool {x y : Bool} (h : x = true ↔ y = true) : Ending.returned (.bool x) = Ending.returned (.bool y) := by rw [Bool.eq_iff_iff.2 h]
def btw (a b c d e f : Int) : Bool := decide (min a c ≤ e) && decide (e ≤ max a c) && decide (min b d ≤ f) && decide (f ≤ max b d)
set_option maxRecDepth 100000 in
set_option maxHeartbeats 8000000 in
theorem between_any (a b c d e f : Int) (w : World) :
    Calls Try.prog 87 #[.agg #[.int .i64 a, .int .i64 b], .agg #[.int .i64 c, .int .i64 d], .agg #[.int .i64 e, .int .i64 f]] w fun E w' => E = .returned (.bool (btw a b c d e f)) ∧ Below w.heap.size w w' := by
  have HR : Hid (btw a b c d e f = (decide (min a c ≤ e) && decide (e ≤ max a c) && decide (min b d ≤ f) && decide (f ≤ max b d))) := Lib.hid rfl
  generalize btw a b c d e f = r at *
  obtain ⟨u0, hw0⟩ : ∃ W, w.alloc (.cells #[.int .i64 a, .int .i64 b] 39) = W := ⟨_, rfl⟩
  obtain ⟨u1, hw1⟩ : ∃ W, u0.alloc (.cells #[.int .i64 c, .int .i64 d] 39) = W := ⟨_, rfl⟩
  obtain ⟨w3, hw2⟩ : ∃ W, u1.alloc (.cells #[.int .i64 e, .int .i64 f] 39) = W := ⟨_, rfl⟩
  obtain ⟨g0, hg0⟩ : ∃ g, w.heap.size = g := ⟨_, rfl⟩
  obtain ⟨g1, hg1⟩ : ∃ g, u0.heap.size = g := ⟨_, rfl⟩
  obtain ⟨g2, hg2⟩ : ∃ g, u1.heap.size = g := ⟨_, rfl⟩
  have hbx0 : Below w.heap.size w u0 := by rw [← hw0]; exact (Below.refl _ _).alloc (Nat.le_refl _) _
  have hsx0 : u0.heap.size = w.heap.size + 1 := by rw [← hw0]; simp
  have hbx1 : Below u0.heap.size u0 u1 := by rw [← hw1]; exact (Below.refl _ _).alloc (Nat.le_refl _) _
  have hsx1 : u1.heap.size = u0.heap.size + 1 := by rw [← hw1]; simp
  have hbx2 : Below u1.heap.size u1 w3 := by rw [← hw2]; exact (Below.refl _ _).alloc (Nat.le_refl _) _
  have hsx2 : w3.heap.size = u1.heap.size + 1 := by rw [← hw2]; simp
  have hbw : Below w.heap.size w w3 := (hbx0.trans (hbx1.mono hbx0.size)).trans (hbx2.mono (by omega))
  have hx0 : u0.heap[w.heap.size]? = some (.cells #[.int .i64 a, .int .i64 b] 39 (0, 0)) := by rw [← hw0]; exact heap_alloc_new _ _
  have hy0 : w3.heap[w.heap.size]? = some (.cells #[.int .i64 a, .int .i64 b] 39 (0, 0)) := (hbx2.block w.heap.size (by omega)).trans ((hbx1.block w.heap.size (by omega)).trans (hx0))
  have hc00 : w3.cell? ⟨w.heap.size, 0, none⟩ = some (.int .i64 a) := cell_of_row w3 _ 0 _ 39 (0, 0) hy0
  have hc01 : w3.cell? ⟨w.heap.size, 1, none⟩ = some (.int .i64 b) := cell_of_row w3 _ 1 _ 39 (0, 0) hy0
  have hl0 : w.heap.size < w3.heap.size := by omega
  have hx1 : u1.heap[u0.heap.size]? = some (.cells #[.int .i64 c, .int .i64 d] 39 (0, 0)) := by rw [← hw1]; exact heap_alloc_new _ _
  have hy1 : w3.heap[u0.heap.size]? = some (.cells #[.int .i64 c, .int .i64 d] 39 (0, 0)) := (hbx2.block u0.heap.size (by omega)).trans (hx1)
  have hc10 : w3.cell? ⟨u0.heap.size, 0, none⟩ = some (.int .i64 c) := cell_of_row w3 _ 0 _ 39 (0, 0) hy1
  have hc11 : w3.cell? ⟨u0.heap.size, 1, none⟩ = some (.int .i64 d) := cell_of_row w3 _ 1 _ 39 (0, 0) hy1
  have hl1 : u0.heap.size < w3.heap.size := by omega
  have hx2 : w3.heap[u1.heap.size]? = some (.cells #[.int .i64 e, .int .i64 f] 39 (0, 0)) := by rw [← hw2]; exact heap_alloc_new _ _
  have hy2 : w3.heap[u1.heap.size]? = some (.cells #[.int .i64 e, .int .i64 f] 39 (0, 0)) := hx2
  have hc20 : w3.cell? ⟨u1.heap.size, 0, none⟩ = some (.int .i64 e) := cell_of_row w3 _ 0 _ 39 (0, 0) hy2
  have hc21 : w3.cell? ⟨u1.heap.size, 1, none⟩ = some (.int .i64 f) := cell_of_row w3 _ 1 _ 39 (0, 0) hy2
  have hl2 : u1.heap.size < w3.heap.size := by omega
  clear hx0 hy0 hbx0 hx1 hy1 hbx1 hx2 hy2 hbx2
  rw [hg0] at hc00 hc01 hl0
  rw [hg1] at hc10 hc11 hl1
  rw [hg2] at hc20 hc21 hl2
  have hs0 : Below w3.heap.size w3 w3.drew ∧ w3.drew.cell? ⟨g0, 0, none⟩ = some (.int .i64 a) ∧ w3.drew.cell? ⟨g0, 1, none⟩ = some (.int .i64 b) ∧ w3.drew.cell? ⟨g1, 0, none⟩ = some (.int .i64 c) ∧ w3.drew.cell? ⟨g1, 1, none⟩ = some (.int .i64 d) ∧ w3.drew.cell? ⟨g2, 0, none⟩ = some (.int .i64 e) ∧ w3.drew.cell? ⟨g2, 1, none⟩ = some (.int .i64 f) := ⟨(Below.refl _ _).drew, hc00, hc01, hc10, hc11, hc20, hc21⟩
  have HBW := Lib.hid hbw
  clear hbw hsx0 hsx1 hsx2
  go_enter Try.func87, Try.ntmps87
  go_wp2
  all_goals
    go_ret
    refine ⟨ret_bool (by rw [HR.out]; simp only [Bool.and_eq_true, decide_eq_true_eq, Bool.false_eq_true]; constructor <;> intro hh <;> first | exact hh.elim | omega), ?_⟩
    first
      | exact HBW.out
      | (rw [← hg0]; exact HBW.out)

def onI (a b c d e f : Int) : Bool := decide (trI a b c d e f = 0) && btw a b c d e f
set_option maxRecDepth 100000 in
set_option maxHeartbeats 8000000 in
theorem on_any (a b c d e f : Int) (w : World) (h1 : Bd 1000000 a) (h2 : Bd 1000000 b) (h3 : Bd 1000000 c) (h4 : Bd 1000000 d) (h5 : Bd 1000000 e) (h6 : Bd 1000000 f) :
    Calls Try.prog 80 #[.agg #[.int .i64 a, .int .i64 b], .agg #[.int .i64 c, .int .i64 d], .agg #[.int .i64 e, .int .i64 f]] w fun E w' => E = .returned (.bool (onI a b c d e f)) ∧ Below w.heap.size w w' := by
  have HT := Lib.hid (fun W => Turn_any a b c d e f W h1 h2 h3 h4 h5 h6)
  have HB := Lib.hid (fun W => between_any a b c d e f W)
  have HR : Hid (onI a b c d e f = (decide (trI a b c d e f = 0) && btw a b c d e f)) := Lib.hid rfl
  clear h1 h2 h3 h4 h5 h6
  generalize onI a b c d e f = r at *
  generalize trI a b c d e f = t at *
  generalize btw a b c d e f = q at *
  obtain ⟨u0, hw0⟩ : ∃ W, w.alloc (.cells #[.int .i64 a, .int .i64 b] 39) = W := ⟨_, rfl⟩
  obtain ⟨u1, hw1⟩ : ∃ W, u0.alloc (.cells #[.int .i64 c, .int .i64 d] 39) = W := ⟨_, rfl⟩
  obtain ⟨w3, hw2⟩ : ∃ W, u1.alloc (.cells #[.int .i64 e, .int .i64 f] 39) = W := ⟨_, rfl⟩
  obtain ⟨g0, hg0⟩ : ∃ g, w.heap.size = g := ⟨_, rfl⟩
  obtain ⟨g1, hg1⟩ : ∃ g, u0.heap.size = g := ⟨_, rfl⟩
  obtain ⟨g2, hg2⟩ : ∃ g, u1.heap.size = g := ⟨_, rfl⟩
  have hbx0 : Below w.heap.size w u0 := by rw [← hw0]; exact (Below.refl _ _).alloc (Nat.le_refl _) _
  have hsx0 : u0.heap.size = w.heap.size + 1 := by rw [← hw0]; simp
  have hbx1 : Below u0.heap.size u0 u1 := by rw [← hw1]; exact (Below.refl _ _).alloc (Nat.le_refl _) _
  have hsx1 : u1.heap.size = u0.heap.size + 1 := by rw [← hw1]; simp
  have hbx2 : Below u1.heap.size u1 w3 := by rw [← hw2]; exact (Below.refl _ _).alloc (Nat.le_refl _) _
  have hsx2 : w3.heap.size = u1.heap.size + 1 := by rw [← hw2]; simp
  have hbw : Below w.heap.size w w3 := (hbx0.trans (hbx1.mono hbx0.size)).trans (hbx2.mono (by omega))
  have hx0 : u0.heap[w.heap.size]? = some (.cells #[.int .i64 a, .int .i64 b] 39 (0, 0)) := by rw [← hw0]; exact heap_alloc_new _ _
  have hy0 : w3.heap[w.heap.size]? = some (.cells #[.int .i64 a, .int .i64 b] 39 (0, 0)) := (hbx2.block w.heap.size (by omega)).trans ((hbx1.block w.heap.size (by omega)).trans (hx0))
  have hc00 : w3.cell? ⟨w.heap.size, 0, none⟩ = some (.int .i64 a) := cell_of_row w3 _ 0 _ 39 (0, 0) hy0
  have hc01 : w3.cell? ⟨w.heap.size, 1, none⟩ = some (.int .i64 b) := cell_of_row w3 _ 1 _ 39 (0, 0) hy0
  have hl0 : w.heap.size < w3.heap.size := by omega
  have hx1 : u1.heap[u0.heap.size]? = some (.cells #[.int .i64 c, .int .i64 d] 39 (0, 0)) := by rw [← hw1]; exact heap_alloc_new _ _
  have hy1 : w3.heap[u0.heap.size]? = some (.cells #[.int .i64 c, .int .i64 d] 39 (0, 0)) := (hbx2.block u0.heap.size (by omega)).trans (hx1)
  have hc10 : w3.cell? ⟨u0.heap.size, 0, none⟩ = some (.int .i64 c) := cell_of_row w3 _ 0 _ 39 (0, 0) hy1
  have hc11 : w3.cell? ⟨u0.heap.size, 1, none⟩ = some (.int .i64 d) := cell_of_row w3 _ 1 _ 39 (0, 0) hy1
  have hl1 : u0.heap.size < w3.heap.size := by omega
  have hx2 : w3.heap[u1.heap.size]? = some (.cells #[.int .i64 e, .int .i64 f] 39 (0, 0)) := by rw [← hw2]; exact heap_alloc_new _ _
  have hy2 : w3.heap[u1.heap.size]? = some (.cells #[.int .i64 e, .int .i64 f] 39 (0, 0)) := hx2
  have hc20 : w3.cell? ⟨u1.heap.size, 0, none⟩ = some (.int .i64 e) := cell_of_row w3 _ 0 _ 39 (0, 0) hy2
  have hc21 : w3.cell? ⟨u1.heap.size, 1, none⟩ = some (.int .i64 f) := cell_of_row w3 _ 1 _ 39 (0, 0) hy2
  have hl2 : u1.heap.size < w3.heap.size := by omega
  clear hx0 hy0 hbx0 hx1 hy1 hbx1 hx2 hy2 hbx2
  rw [hg0] at hc00 hc01 hl0
  rw [hg1] at hc10 hc11 hl1
  rw [hg2] at hc20 hc21 hl2
  have hs0 : Below w3.heap.size w3 w3.drew ∧ w3.drew.cell? ⟨g0, 0, none⟩ = some (.int .i64 a) ∧ w3.drew.cell? ⟨g0, 1, none⟩ = some (.int .i64 b) ∧ w3.drew.cell? ⟨g1, 0, none⟩ = some (.int .i64 c) ∧ w3.drew.cell? ⟨g1, 1, none⟩ = some (.int .i64 d) ∧ w3.drew.cell? ⟨g2, 0, none⟩ = some (.int .i64 e) ∧ w3.drew.cell? ⟨g2, 1, none⟩ = some (.int .i64 f) := ⟨(Below.refl _ _).drew, hc00, hc01, hc10, hc11, hc20, hc21⟩
  have HBW := Lib.hid hbw
  clear hbw hsx0 hsx1 hsx2
  by_cases ht : t = 0
  · subst ht
    go_enter Try.func80, Try.ntmps80
    go_wp2_with (first
      | (go_at_call 58; go_loud (refine (HT.out _).mono ?_; rintro E w1 ⟨rfl, hb1⟩; have B1 := Lib.hid (HBW.out.trans (hb1.mono HBW.out.size)); have cc00 := (hb1.cell (p := ⟨g0, 0, none⟩) hl0).trans hc00; have cc01 := (hb1.cell (p := ⟨g0, 1, none⟩) hl0).trans hc01; have cc10 := (hb1.cell (p := ⟨g1, 0, none⟩) hl1).trans hc10; have cc11 := (hb1.cell (p := ⟨g1, 1, none⟩) hl1).trans hc11; have cc20 := (hb1.cell (p := ⟨g2, 0, none⟩) hl2).trans hc20; have cc21 := (hb1.cell (p := ⟨g2, 1, none⟩) hl2).trans hc21; clear hb1))
      | (go_at_call 87; go_loud (refine (HB.out _).mono ?_; rintro E w2 ⟨rfl, hb2⟩; have B2 := Lib.hid (B1.out.trans (hb2.mono B1.out.size)); clear hb2)))
    all_goals
      go_ret
      refine ⟨ret_bool (by rw [HR.out]; simp), ?_⟩
      first
        | exact B2.out
        | (rw [← hg0]; exact B2.out)
  · have htd : decide (t = 0) = false := decide_eq_false ht
    go_enter Try.func80, Try.ntmps80
    go_wp2_with (first
      | (go_at_call 58; go_loud (refine (HT.out _).mono ?_; rintro E w1 ⟨rfl, hb1⟩; have B1 := Lib.hid (HBW.out.trans (hb1.mono HBW.out.size)); clear hb1)))
    all_goals
      go_ret
      refine ⟨ret_bool (by rw [HR.out]; simp [ht]), ?_⟩
      first
        | exact B1.out
        | (rw [← hg0]; exact B1.out)
end Go.Proofs.Ytdmecagdjbjgjaa
