/- Contracts of Cut, Inside and Meet. -/
import Derived.Test.YtpnihjomemojlaaRows
import Derived.WalkKit
import Derived.WalkSpells
import Derived.WalkLawsBesides
import Derived.Lib.Hide
namespace Go.Proofs.Ytpnihjomemojlaa
open Go.RowKit

def cutI (n lo hi : Int) : Int := lo + n.emod (hi - lo + 1)

theorem cutI_bd {n lo hi : Int} (h : lo ≤ hi) : lo ≤ cutI n lo hi ∧ cutI n lo hi ≤ hi := by
  unfold cutI
  have h1 := Int.emod_nonneg n (show hi - lo + 1 ≠ 0 by omega)
  have h2 := Int.emod_lt_of_pos n (show 0 < hi - lo + 1 by omega)
  show lo ≤ lo + n % (hi - lo + 1) ∧ lo + n % (hi - lo + 1) ≤ hi
  omega

theorem tmod_neg_case {n m : Int} (hm : 0 < m) (h : n.tmod m < 0) : n.tmod m + m = n % m := by
  have h1 := Int.emod_nonneg n (show m ≠ 0 by omega)
  have h2 := Int.emod_lt_of_pos n hm
  rw [Int.tmod_eq_emod] at *
  split at h <;> split <;> omega

theorem tmod_pos_case {n m : Int} (hm : 0 < m) (h : 0 ≤ n.tmod m) : n.tmod m = n % m := by
  have h1 := Int.emod_nonneg n (show m ≠ 0 by omega)
  have h2 := Int.emod_lt_of_pos n hm
  rw [Int.tmod_eq_emod] at *
  split at h <;> split <;> omega

theorem ret_int {k : IntKind} {a b : Int} (h : a = b) : Ending.returned (.int k a) = .returned (.int k b) := by rw [h]

set_option maxHeartbeats 400000 in
theorem Cut_any (n lo hi : Int) (w : World) (h1 : -1000000 ≤ lo) (h2 : lo ≤ hi) (h3 : hi ≤ 1000000) :
    Calls Try.prog 6 #[.int .i64 n, .int .i64 lo, .int .i64 hi] w fun e w' => e = .returned (.int .i64 (cutI n lo hi)) ∧ w = w' := by
  have hb1 := Int.emod_nonneg n (show hi - lo + 1 ≠ 0 by omega)
  have hb2 := Int.emod_lt_of_pos n (show 0 < hi - lo + 1 by omega)
  have hm : 0 < hi - lo + 1 := by omega
  by_cases hn : n.tmod (hi - lo + 1) < 0
  · have e := tmod_neg_case hm hn
    have g1 : 0 ≤ n.tmod (hi - lo + 1) + (hi - lo + 1) := by omega
    have g2 : n.tmod (hi - lo + 1) + (hi - lo + 1) < 2000002 := by omega
    have H := Lib.hid e
    clear e hb1 hb2
    go_enter Try.func6, Try.ntmps6
    go_wp2
    go_ret
    exact ⟨ret_int (by rw [H.out]; rfl), rfl⟩
  · have e := tmod_pos_case (n := n) hm (by omega)
    have g1 : 0 ≤ n.tmod (hi - lo + 1) := by omega
    have g2 : n.tmod (hi - lo + 1) < 2000002 := by omega
    have H := Lib.hid e
    clear e hb1 hb2
    go_enter Try.func6, Try.ntmps6
    go_wp2
    go_ret
    exact ⟨ret_int (by rw [H.out]; rfl), rfl⟩

/-- A rectangle as a Go value. -/
def boxV (x y W H : Int) : Value := .agg #[.int .i64 x, .int .i64 y, .int .i64 W, .int .i64 H]

def inB (bx bY bw bh x y : Int) : Bool := decide (bx ≤ x) && decide (x < bx + bw) && decide (bY ≤ y) && decide (y < bY + bh)
def meetB (ax ay aw ah bx bY bw bh : Int) : Bool := decide (ax < bx + bw) && decide (bx < ax + aw) && decide (ay < bY + bh) && decide (bY < ay + ah)

set_option maxHeartbeats 400000 in
theorem Inside_any (bx bY bw bh x y : Int) (w : World) (h1 : -1000000 ≤ bx) (h2 : bx ≤ 1000000) (h3 : -1000000 ≤ bw) (h4 : bw ≤ 1000000)
    (k1 : -1000000 ≤ bY) (k2 : bY ≤ 1000000) (k3 : -1000000 ≤ bh) (k4 : bh ≤ 1000000) :
    Calls Try.prog 7 #[.agg #[.int .i64 bx, .int .i64 bY, .int .i64 bw, .int .i64 bh], .int .i64 x, .int .i64 y] w fun e w' => e = .returned (.bool (inB bx bY bw bh x y)) ∧ Below w.heap.size w w' := by

  go_enter Try.func7, Try.ntmps7
  go_wp2
  all_goals
    go_ret
    refine ⟨by simp [inB]; omega, (Below.refl _ _).alloc (Nat.le_refl _) _⟩

set_option maxHeartbeats 400000 in
theorem Meet_any (ax ay aw ah bx bY bw bh : Int) (w : World) (h1 : -1000000 ≤ bx) (h2 : bx ≤ 1000000) (h3 : -1000000 ≤ bw) (h4 : bw ≤ 1000000)
    (k1 : -1000000 ≤ bY) (k2 : bY ≤ 1000000) (k3 : -1000000 ≤ bh) (k4 : bh ≤ 1000000)
    (a1 : -1000000 ≤ ax) (a2 : ax ≤ 1000000) (a3 : -1000000 ≤ aw) (a4 : aw ≤ 1000000)
    (b1 : -1000000 ≤ ay) (b2 : ay ≤ 1000000) (b3 : -1000000 ≤ ah) (b4 : ah ≤ 1000000) :
    Calls Try.prog 8 #[.agg #[.int .i64 ax, .int .i64 ay, .int .i64 aw, .int .i64 ah], .agg #[.int .i64 bx, .int .i64 bY, .int .i64 bw, .int .i64 bh]] w fun e w' => e = .returned (.bool (meetB ax ay aw ah bx bY bw bh)) ∧ Below w.heap.size w w' := by
  go_enter Try.func8, Try.ntmps8
  go_wp2

  all_goals
    go_ret
    refine ⟨by simp [meetB]; omega, ((Below.refl _ _).alloc (Nat.le_refl _) _).alloc (by simp) _⟩

/-! The plain law: two rectangles meet exactly if a cell of the first is in the second. -/
def rowAny (bx bY bw bh x0 y : Int) (n : Nat) : Bool := (List.range n).any fun i => inB bx bY bw bh (x0 + i) y
def gridAny (bx bY bw bh x0 y0 : Int) (m n : Nat) : Bool := (List.range n).any fun r => rowAny bx bY bw bh x0 (y0 + r) m

theorem rowAny_succ (bx bY bw bh x0 y : Int) (n : Nat) : rowAny bx bY bw bh x0 y (n + 1) = (rowAny bx bY bw bh x0 y n || inB bx bY bw bh (x0 + n) y) := by
  simp [rowAny, List.range_succ, List.any_append]
theorem gridAny_succ (bx bY bw bh x0 y0 : Int) (m n : Nat) : gridAny bx bY bw bh x0 y0 m (n + 1) = (gridAny bx bY bw bh x0 y0 m n || rowAny bx bY bw bh x0 (y0 + n) m) := by
  simp [gridAny, List.range_succ, List.any_append]

theorem meet_iff (ax ay aw ah bx bY bw bh : Int) (haw : 1 ≤ aw) (hah : 1 ≤ ah) (hbw : 1 ≤ bw) (hbh : 1 ≤ bh) :
    gridAny bx bY bw bh ax ay aw.toNat ah.toNat = meetB ax ay aw ah bx bY bw bh := by
  rw [Bool.eq_iff_iff]
  simp only [gridAny, rowAny, List.any_eq_true, List.mem_range, inB, meetB, Bool.and_eq_true, decide_eq_true_eq]
  constructor
  · rintro ⟨r, hr, i, hi, ⟨⟨h1, h2⟩, h3⟩, h4⟩
    omega
  · rintro ⟨⟨⟨h1, h2⟩, h3⟩, h4⟩
    refine ⟨(max ay bY - ay).toNat, by omega, (max ax bx - ax).toNat, by omega, ⟨⟨?_, ?_⟩, ?_⟩, ?_⟩ <;> omega

theorem meet_comm (ax ay aw ah bx bY bw bh : Int) : meetB bx bY bw bh ax ay aw ah = meetB ax ay aw ah bx bY bw bh := by
  rw [Bool.eq_iff_iff]
  simp only [meetB, Bool.and_eq_true, decide_eq_true_eq]
  omega

end Go.Proofs.Ytpnihjomemojlaa
