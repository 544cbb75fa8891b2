/- Plain words: aircraft in separated places are apart. -/
import Derived.Test.YtaebebpldkciiaaGreatDoorQB3
namespace Go.Proofs.YtaebebpldkciiaaGreatDoor
open Go.RowKit
structure Ac where
 n : Nd
 x : Int
 y : Int
 h : Int
instance : Inhabited Ac := ⟨⟨default, 0, 0, 0⟩⟩
def acV (a : Ac) : List Value := [.int .i64 a.n.t, .int .i64 a.n.x, .int .i64 a.n.y, .int .i64 a.n.h, .int .i64 a.n.r, .int .i64 a.n.b, .int .i64 a.x, .int .i64 a.y, .int .i64 a.h]
theorem acV_len (a : Ac) : (acV a).length = 9 := rfl
def acA (a : Ac) : Value := .agg #[.int .i64 a.n.t, .int .i64 a.n.x, .int .i64 a.n.y, .int .i64 a.n.h, .int .i64 a.n.r, .int .i64 a.n.b, .int .i64 a.x, .int .i64 a.y, .int .i64 a.h]
structure AcOk (a : Ac) : Prop where
 nd : NdOk a.n
 x0 : -1000000 ≤ a.x
 x1 : a.x ≤ 1000000
 y0 : -1000000 ≤ a.y
 y1 : a.y ≤ 1000000
 h0 : 0 ≤ a.h
 h1 : a.h ≤ 60000
 d : sqI a.n.x a.n.y a.x a.y ≤ a.n.r * a.n.r
 v : max (a.h - a.n.h) (a.n.h - a.h) ≤ a.n.b
theorem sq_pos (a : Int) : 0 ≤ a * a := by
 rcases Int.le_total 0 a with h | h
 ·exact Int.mul_nonneg h h
 ·exact Int.mul_nonneg_of_nonpos_of_nonpos h h
theorem cauchy {x y u v A B : Int} (hA : 0 ≤ A) (hB : 0 ≤ B) (h1 : x * x + y * y ≤ A * A) (h2 : u * u + v * v ≤ B * B) : x * u + y * v ≤ A * B := by
 rcases Int.lt_or_le (A * B) (x * u + y * v) with h | h
 ·exfalso
  have hAB : 0 ≤ A * B := Int.mul_nonneg hA hB
  have k1 : A * B * (A * B) < (x * u + y * v) * (x * u + y * v) := Int.mul_self_lt_mul_self hAB h
  have k2 : (x * u + y * v) * (x * u + y * v) + (x * v - y * u) * (x * v - y * u) = (x * x + y * y) * (u * u + v * v) := by grind
  have k3 : 0 ≤ (x * v - y * u) * (x * v - y * u) := sq_pos _
  have k4 : (x * x + y * y) * (u * u + v * v) ≤ A * A * (B * B) := Int.mul_le_mul h1 h2 (Int.add_nonneg (sq_pos _) (sq_pos _)) (sq_pos _)
  have k5 : A * A * (B * B) = A * B * (A * B) := by grind
  omega
 ·exact h
theorem tri {x y u v A B : Int} (hA : 0 ≤ A) (hB : 0 ≤ B) (h1 : x * x + y * y ≤ A * A) (h2 : u * u + v * v ≤ B * B) : (x + u) * (x + u) + (y + v) * (y + v) ≤ (A + B) * (A + B) := by
 have k := cauchy hA hB h1 h2
 have e1 : (x + u) * (x + u) + (y + v) * (y + v) = (x * x + y * y) + (u * u + v * v) + 2 * (x * u + y * v) := by grind
 have e2 : (A + B) * (A + B) = A * A + B * B + 2 * (A * B) := by grind
 rw [e1, e2]
 omega
theorem tri_lt {x y u v A B : Int} (hA : 0 ≤ A) (hB : 0 ≤ B) (h1 : x * x + y * y ≤ A * A) (h2 : u * u + v * v < B * B) : (x + u) * (x + u) + (y + v) * (y + v) < (A + B) * (A + B) := by
 have k := cauchy hA hB h1 (Int.le_of_lt h2)
 have e1 : (x + u) * (x + u) + (y + v) * (y + v) = (x * x + y * y) + (u * u + v * v) + 2 * (x * u + y * v) := by grind
 have e2 : (A + B) * (A + B) = A * A + B * B + 2 * (A * B) := by grind
 rw [e1, e2]
 omega
theorem ac_apart {a b : Ac} (ha : AcOk a) (hb : AcOk b) {lat vert : Int} (hl : 0 ≤ lat) (h : sepN a.n b.n lat vert = true) (h1 : sqI a.x a.y b.x b.y < lat * lat) (h2 : max (a.h - b.h) (b.h - a.h) < vert) : False := by
 have r0 := ha.nd.r0
 have r1 := hb.nd.r0
 unfold sepN at h
 rw [Bool.or_eq_true, decide_eq_true_eq, decide_eq_true_eq] at h
 rcases h with h | h
 ·have d1 := ha.d
  have d2 := hb.d
  unfold sqI at d1 d2 h1 h
  have d3 : (b.x - b.n.x) * (b.x - b.n.x) + (b.y - b.n.y) * (b.y - b.n.y) ≤ b.n.r * b.n.r := by
   rw [show b.x - b.n.x = -(b.n.x - b.x) by omega, show b.y - b.n.y = -(b.n.y - b.y) by omega, Int.neg_mul_neg, Int.neg_mul_neg]
   exact d2
  have t1 := tri r0 r1 d1 d3
  have t2 := tri_lt (by omega) hl t1 h1
  rw [show a.n.x - a.x + (b.x - b.n.x) + (a.x - b.x) = a.n.x - b.n.x by omega, show a.n.y - a.y + (b.y - b.n.y) + (a.y - b.y) = a.n.y - b.n.y by omega, show a.n.r + b.n.r + lat = lat + a.n.r + b.n.r by omega] at t2
  omega
 ·have v1 := ha.v
  have v2 := hb.v
  omega
theorem ac_inside {a : Ac} (ha : AcOk a) : (!decide (sqI a.n.x a.n.y a.x a.y ≤ a.n.r * a.n.r)) = false ∧ decide (a.n.b < max (a.h - a.n.h) (a.n.h - a.h)) = false := by
 have := ha.d
 have := ha.v
 exact ⟨by simpa using ha.d, decide_eq_false (by omega)⟩
end Go.Proofs.YtaebebpldkciiaaGreatDoor
