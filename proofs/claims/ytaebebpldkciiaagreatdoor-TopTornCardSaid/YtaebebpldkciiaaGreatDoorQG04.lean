/- Contracts and plain words, part 4: texts T8, R8, T9, T10, T20, T21, T22, P3, Del. -/
import Derived.Test.YtaebebpldkciiaaGreatDoorQG03
import Derived.Test.YtaebebpldkciiaaGreatDoorQG01
import Derived.Deep.AppendSrc
namespace Go.Proofs.YtaebebpldkciiaaGreatDoor
section
open Go.RowKit
theorem lerp_bd {e n d : Int} (h0 : 0 ≤ n) (h1 : n ≤ d) (hd : 0 < d) : min 0 e ≤ e * n / d ∧ e * n / d ≤ max 0 e := by
 by_cases he : 0 ≤ e
 ·rw [Int.min_eq_left he, Int.max_eq_right he]
  constructor
  ·exact Int.ediv_nonneg (Int.mul_nonneg he h0) (by omega)
  ·exact Int.ediv_le_of_le_mul hd (Int.mul_le_mul_of_nonneg_left h1 he)
 ·rw [Int.min_eq_right (by omega), Int.max_eq_left (by omega)]
  constructor
  ·rw [Int.le_ediv_iff_mul_le hd]
   exact Int.mul_le_mul_of_nonpos_left (by omega) h1
  ·refine Int.ediv_le_of_le_mul hd ?_
   rw [Int.zero_mul]
   exact Int.mul_nonpos_of_nonpos_of_nonneg (by omega) h0
theorem up_lerp {e n d : Int} (h0 : 0 ≤ n) (h1 : n ≤ d) (hd : 0 < d) : min 0 e ≤ upD (e * n) d ∧ upD (e * n) d ≤ max 0 e := by
 have h := lerp_bd (e := -e) h0 h1 hd
 unfold upD
 rw [← Int.neg_mul]
 omega
theorem mixN_ok {a b : Nd} {t : Int} (ha : NdOk a) (hb : NdOk b) (h1 : a.t < t) (h2 : t < b.t) : NdOk (mixN a b t) := by
 have e1 := lerp_bd (e := b.x - a.x) (n := t - a.t) (d := b.t - a.t) (by omega) (by omega) (by omega)
 have e2 := lerp_bd (e := b.y - a.y) (n := t - a.t) (d := b.t - a.t) (by omega) (by omega) (by omega)
 have e3 := lerp_bd (e := b.h - a.h) (n := t - a.t) (d := b.t - a.t) (by omega) (by omega) (by omega)
 have e4 := up_lerp (e := b.r - a.r) (n := t - a.t) (d := b.t - a.t) (by omega) (by omega) (by omega)
 have e5 := up_lerp (e := b.b - a.b) (n := t - a.t) (d := b.t - a.t) (by omega) (by omega) (by omega)
 obtain ⟨a1, a2, a3, a4, a5, a6, a7, a8, a9, a10, a11, a12⟩ := ha
 obtain ⟨b1, b2, b3, b4, b5, b6, b7, b8, b9, b10, b11, b12⟩ := hb
 unfold mixN
 exact ⟨by show 0 ≤ t; omega, by show t ≤ 200000; omega, by dsimp only; omega, by dsimp only; omega, by dsimp only; omega, by dsimp only; omega, by dsimp only; omega, by dsimp only; omega, by dsimp only; omega, by dsimp only; omega, by dsimp only; omega, by dsimp only; omega⟩
theorem atN_ok {l : Tu} (h : TuOk l) {t : Int} (h0 : fstT l ≤ t) (h1 : t ≤ lstT l) : NdOk (atN l t) ∧ (atN l t).t = t := by
 have hlt := lowT_lt h h1
 unfold atN
 by_cases hit : (l[lowT l t]!).t = t
 ·rw [if_pos hit]; exact ⟨h.nd _ hlt, hit⟩
 ·rw [if_neg hit]
  have hp := lowT_pos h h0 hit h1
  have hs := lowT_spec h t
  have s1 := hs.1 (lowT l t - 1) (by omega)
  have s2 := hs.2 (lowT l t) (Nat.le_refl _) hlt
  exact ⟨mixN_ok (h.nd _ (by omega)) (h.nd _ hlt) s1 (by omega), rfl⟩
theorem ret_bool {x y : Bool} (h : x = true ↔ y = true) : Ending.returned (.bool x) = Ending.returned (.bool y) := by rw [Bool.eq_iff_iff.2 h]
def sepN (p q : Nd) (lat vert : Int) : Bool := decide ((lat + p.r + q.r) * (lat + p.r + q.r) ≤ sqI p.x p.y q.x q.y) || decide (vert + p.b + q.b ≤ max (p.h - q.h) (q.h - p.h))
set_option maxRecDepth 100000 in
set_option maxHeartbeats 8000000 in
theorem separated_any (p q : Nd) (lat vert : Int) (w : World) (hp : NdOk p) (hq : NdOk q) (h7 : 0 ≤ lat ∧ lat ≤ 1000000) (_h8 : 0 ≤ vert ∧ vert ≤ 60000) :
  Calls Tryz.prog 194 #[ndA p, ndA q, .agg #[.int .i64 lat, .int .i64 vert]] w fun E w' => E = .returned (.bool (sepN p q lat vert)) ∧ Below w.heap.size w w' := by
 have HD := Lib.hid (fun W => Distance_any p.x p.y q.x q.y W ⟨hp.x0, hp.x1⟩ ⟨hp.y0, hp.y1⟩ ⟨hq.x0, hq.x1⟩ ⟨hq.y0, hq.y1⟩)
 have HR : Hid (sepN p q lat vert = (decide ((lat + p.r + q.r) * (lat + p.r + q.r) ≤ sqI p.x p.y q.x q.y) || decide (vert + p.b + q.b ≤ max (p.h - q.h) (q.h - p.h)))) := Lib.hid rfl
 generalize sepN p q lat vert = z at *
 obtain ⟨_, _, _, _, _, _, a1, a2, a3, a4, a5, a6⟩ := hp
 obtain ⟨_, _, _, _, _, _, b1, b2, b3, b4, b5, b6⟩ := hq
 obtain ⟨pt, px, py, ph, pr, pb⟩ := p
 obtain ⟨qt, qx, qy, qh, qr, qb⟩ := q
 unfold ndA
 simp only at *
 generalize sqI px py qx qy = sq at *
 have HL : Hid (0 ≤ lat + pr + qr) := Lib.hid (by omega)
 obtain ⟨u0, hw0⟩ : ∃ W, w.alloc (.cells #[.int .i64 pt, .int .i64 px, .int .i64 py, .int .i64 ph, .int .i64 pr, .int .i64 pb] 52) = W := ⟨_, rfl⟩
 obtain ⟨u1, hw1⟩ : ∃ W, u0.alloc (.cells #[.int .i64 qt, .int .i64 qx, .int .i64 qy, .int .i64 qh, .int .i64 qr, .int .i64 qb] 52) = W := ⟨_, rfl⟩
 obtain ⟨w3, hw2⟩ : ∃ W, u1.alloc (.cells #[.int .i64 lat, .int .i64 vert] 23) = W := ⟨_, rfl⟩
 have hbx0 : Below w.heap.size w u0 := by rw [← hw0]; exact (Below.refl _ _).alloc (Nat.le_refl _) _
 have hsx0 : u0.heap.size = w.heap.size + 1 := by rw [← hw0]; simp
 have hbx1 : Below u0.heap.size u0 u1 := by rw [← hw1]; exact (Below.refl _ _).alloc (Nat.le_refl _) _
 have hsx1 : u1.heap.size = u0.heap.size + 1 := by rw [← hw1]; simp
 have hbx2 : Below u1.heap.size u1 w3 := by rw [← hw2]; exact (Below.refl _ _).alloc (Nat.le_refl _) _
 have hsx2 : w3.heap.size = u1.heap.size + 1 := by rw [← hw2]; simp
 have hbw : Below w.heap.size w w3 := (hbx0.trans (hbx1.mono hbx0.size)).trans (hbx2.mono (by omega))
 have hy0 : w3.heap[w.heap.size]? = some (.cells #[.int .i64 pt, .int .i64 px, .int .i64 py, .int .i64 ph, .int .i64 pr, .int .i64 pb] 52 (0, 0)) := (hbx2.block w.heap.size (by omega)).trans ((hbx1.block w.heap.size (by omega)).trans (by rw [← hw0]; exact heap_alloc_new _ _))
 have hy1 : w3.heap[u0.heap.size]? = some (.cells #[.int .i64 qt, .int .i64 qx, .int .i64 qy, .int .i64 qh, .int .i64 qr, .int .i64 qb] 52 (0, 0)) := (hbx2.block u0.heap.size (by omega)).trans (by rw [← hw1]; exact heap_alloc_new _ _)
 have hy2 : w3.heap[u1.heap.size]? = some (.cells #[.int .i64 lat, .int .i64 vert] 23 (0, 0)) := by rw [← hw2]; exact heap_alloc_new _ _
 have hl0 : w.heap.size < w3.heap.size := by omega
 have hl1 : u0.heap.size < w3.heap.size := by omega
 have hl2 : u1.heap.size < w3.heap.size := by omega
 obtain ⟨g0, hg0⟩ : ∃ g, w.heap.size = g := ⟨_, rfl⟩
 obtain ⟨g1, hg1⟩ : ∃ g, u0.heap.size = g := ⟨_, rfl⟩
 obtain ⟨g2, hg2⟩ : ∃ g, u1.heap.size = g := ⟨_, rfl⟩
 rw [hg0] at hy0 hl0
 rw [hg1] at hy1 hl1
 rw [hg2] at hy2 hl2
 have HBW := Lib.hid hbw
 have HG := Lib.hid hg0
 clear hbw hsx0 hsx1 hsx2 hbx0 hbx1 hbx2
 have c1 : w3.cell? ⟨g0, 1, none⟩ = some (.int .i64 px) := cell_of_row w3 _ 1 _ 52 (0, 0) hy0
 have c2 : w3.cell? ⟨g0, 2, none⟩ = some (.int .i64 py) := cell_of_row w3 _ 2 _ 52 (0, 0) hy0
 have d1 : w3.cell? ⟨g1, 1, none⟩ = some (.int .i64 qx) := cell_of_row w3 _ 1 _ 52 (0, 0) hy1
 have d2 : w3.cell? ⟨g1, 2, none⟩ = some (.int .i64 qy) := cell_of_row w3 _ 2 _ 52 (0, 0) hy1
 have HY0 := Lib.hid hy0
 have HY1 := Lib.hid hy1
 have HY2 := Lib.hid hy2
 clear hy0 hy1 hy2
 have v1 : IntKind.i64.wrap (ph - qh) = ph - qh := IntWalk.i64_in _ (by omega)
 have v2 : IntKind.i64.wrap (qh - ph) = qh - ph := IntWalk.i64_in _ (by omega)
 have v3 : IntKind.i64.wrap (max (ph - qh) (qh - ph) - pb) = max (ph - qh) (qh - ph) - pb := IntWalk.i64_in _ (by omega)
 have v4 : IntKind.i64.wrap (max (ph - qh) (qh - ph) - pb - qb) = max (ph - qh) (qh - ph) - pb - qb := IntWalk.i64_in _ (by omega)
 go_enter Tryz.func194, Tryz.ntmps194
 go_wp2_with (go_at_call 164; go_loud (refine (HD.out _).mono ?_; rintro E w4 ⟨⟨r, s, rfl, hr⟩, hb4⟩; have HRo := Lib.hid hr; have r0 := hr.1; have r1 := hr.2.2.2; clear hr; have k1 : IntKind.i64.wrap (r - pr) = r - pr := (IntWalk.i64_in _ (by omega)); have k2 : IntKind.i64.wrap (r - pr - qr) = r - pr - qr := (IntWalk.i64_in _ (by omega)); have e0 := (hb4.block g0 hl0).trans HY0.out; have e1 := (hb4.block g1 hl1).trans HY1.out; have e2 := (hb4.block g2 hl2).trans HY2.out; have m3 : w4.cell? ⟨g0, 3, none⟩ = some (.int .i64 ph) := cell_of_row w4 _ 3 _ 52 (0, 0) e0; have m4 : w4.cell? ⟨g0, 4, none⟩ = some (.int .i64 pr) := cell_of_row w4 _ 4 _ 52 (0, 0) e0; have m5 : w4.cell? ⟨g0, 5, none⟩ = some (.int .i64 pb) := cell_of_row w4 _ 5 _ 52 (0, 0) e0; have n3 : w4.cell? ⟨g1, 3, none⟩ = some (.int .i64 qh) := cell_of_row w4 _ 3 _ 52 (0, 0) e1; have n4 : w4.cell? ⟨g1, 4, none⟩ = some (.int .i64 qr) := cell_of_row w4 _ 4 _ 52 (0, 0) e1; have n5 : w4.cell? ⟨g1, 5, none⟩ = some (.int .i64 qb) := cell_of_row w4 _ 5 _ 52 (0, 0) e1; have f0 : w4.cell? ⟨g2, 0, none⟩ = some (.int .i64 lat) := cell_of_row w4 _ 0 _ 23 (0, 0) e2; have f1 : w4.cell? ⟨g2, 1, none⟩ = some (.int .i64 vert) := cell_of_row w4 _ 1 _ 23 (0, 0) e2; clear e0 e1 e2; have HB4 := Lib.hid (HBW.out.trans (hb4.mono HBW.out.size)); clear hb4))
 all_goals
  go_ret
  refine ⟨ret_bool ?_, by first | exact HB4.out | (rw [← HG.out]; exact HB4.out)⟩
  have hge := root_ge HRo.out HL.out
  rw [HR.out]
  simp only [Bool.or_eq_true, decide_eq_true_eq, true_iff]
  first
   | exact .inl (hge.1 (by omega))
   | (rw [← hge]; omega)
   | (rw [← hge]; constructor <;> intro hh <;> omega)
end
section
open Go.RowKit
def sepE (a b : Int) : Int := if 0 ≤ a ∧ a ≤ 1000000 ∧ 0 ≤ b ∧ b ≤ 60000 then 0 else 4
set_option maxRecDepth 100000 in
set_option maxHeartbeats 8000000 in
theorem CheckSep_any (a b : Int) (w : World) : Calls Tryz.prog 42 #[.agg #[.int .i64 a, .int .i64 b]] w fun E w' => E = .returned (.int .i64 (sepE a b)) ∧ Below w.heap.size w w' := by
 have HE : Hid (sepE a b = if 0 ≤ a ∧ a ≤ 1000000 ∧ 0 ≤ b ∧ b ≤ 60000 then 0 else 4) := Lib.hid rfl
 generalize sepE a b = r at *
 go_enter Tryz.func42, Tryz.ntmps42
 go_wp2
 all_goals
  go_ret
  refine ⟨?_, (Below.refl _ w).alloc (Nat.le_refl _) _⟩
  rw [HE.out]
  split
  all_goals first
   | rfl
   | (exfalso; omega)
end
section
open Go.RowKit
theorem tuOne {q : Nd} (h : NdOk q) : TuOk [q] :=
 ⟨by show 0 < 1; omega, by show 1 ≤ 64; omega, fun i hi => by
  have : i = 0 := by simp at hi; omega
  subst this; exact h, fun i h0 hi => by simp at hi; omega⟩
set_option maxRecDepth 100000 in
set_option maxHeartbeats 8000000 in
theorem PrCheck_ok (lat vert : Int) (g k : Nat) (A : Nat → Option Addr) (n : Nat → Nat) (l : Nat → Tu) (w : World) (h7 : 0 ≤ lat ∧ lat ≤ 1000000) (h8 : 0 ≤ vert ∧ vert ≤ 60000) (hg : g < w.heap.size) (hk : k ≤ 1000)
  (hc : ∀ i, i < k → w.cell? ⟨g, i, none⟩ = some (.slice (A i) (n i) (n i))) (ht : ∀ i, i < k → TuA (A i) (n i) (l i) w ∧ TuOk (l i)) :
  Calls Tryz.prog 193 #[.agg #[.int .i64 lat, .int .i64 vert], .slice (some ⟨g, 0, none⟩) k k] w fun e w' => e = .returned (.int .i64 0) ∧ Below w.heap.size w w' := by
 have hs : sepE lat vert = 0 := by unfold sepE; rw [if_pos (by omega)]
 have HP := Lib.hid (fun W => (CheckSep_any lat vert W).mono fun e W2 h => (show e = .returned (.int .i64 0) ∧ Below W.heap.size W W2 from ⟨by rw [h.1, hs], h.2⟩))
 have HT := Lib.hid (fun (W : World) (i : Nat) (hi : i < k) (hb : Below w.heap.size w W) => (TCheck_any (A i) (n i) (n i) (l i) W ((ht i hi).1.below hb) (by have h1 := (ht i hi).1.1; have h2 := (ht i hi).2.n1; unfold maxLen; omega)).mono fun e W2 h => (show e = .returned (.int .i64 0) ∧ Below w.heap.size w W2 from ⟨by rw [h.1, (ht i hi).2.e], hb.trans (h.2.mono hb.size)⟩))
 have HC := Lib.hid hc
 clear hc ht h7 h8 hs
 go_enter Tryz.func193, Tryz.ntmps193
 go_wp2_with (go_at_call 42; go_loud (refine (HP.out _).mono ?_; rintro e w1 ⟨rfl, hb1⟩; have HB1 := Lib.hid ((((Below.refl _ w).alloc (Nat.le_refl _) _).trans (hb1.mono (by rw [size_al]; omega)) : Below w.heap.size w w1))))
 go_loopw [16] (fun i wr => ∃ j : Nat, j ≤ k ∧ i = .int .i64 (j : Int) ∧ Hid (Below w.heap.size w wr)) (fun i _ => k - (intOf i).toNat)
 case atStart => exact ⟨0, by omega, rfl, HB1⟩
 case round =>
  obtain ⟨j, hj, rfl, HB⟩ := hrel
  by_cases hlt : j < k
  ·have l1 : (j : Int) < (k : Int) := by omega
   have l0 : (0 : Int) ≤ (j : Int) := by omega
   have d0 : wr.cell? ⟨g, j, none⟩ = some (.slice (A j) (n j) (n j)) := (HB.out.cell (p := ⟨g, j, none⟩) hg).trans (HC.out j hlt)
   have HTj := Lib.hid (HT.out wr j hlt HB.out)
   generalize A j = a at *
   generalize n j = m at *
   go_wp2_with (go_at_call 47; go_loud (refine HTj.out.mono ?_; rintro e w2 ⟨rfl, hb2⟩))
   go_roundw
   case rel => exact ⟨j + 1, by omega, by go_num, Lib.hid hb2⟩
   case measure => simp [intOf]; omega
  ·obtain rfl : k = j := by omega
   go_wp2_with fail
   go_ret
   exact ⟨rfl, HB.out⟩
end
section
open Go.RowKit
def SpF (p q : Nd) (lat vert : Int) (w W : World) : Prop :=
 w.heap.size + 3 ≤ W.heap.size ∧ Below w.heap.size w W ∧ NdAt w.heap.size p W ∧ NdAt (w.heap.size + 1) q W ∧ (W.cell? ⟨w.heap.size + 1 + 1, 0, none⟩ = some (.int .i64 lat) ∧ W.cell? ⟨w.heap.size + 1 + 1, 1, none⟩ = some (.int .i64 vert))
theorem SpF.on {p q : Nd} {lat vert : Int} {w W W2 : World} (h : SpF p q lat vert w W) (hb : Below W.heap.size W W2) : SpF p q lat vert w W2 := by
 obtain ⟨h0, h1, h2, h3, h4, h5⟩ := h
 have := hb.size
 exact ⟨by omega, h1.trans (hb.mono h1.size), h2.below hb (by omega), h3.below hb (by omega), (hb.cell (p := ⟨w.heap.size + 1 + 1, 0, none⟩) (by show w.heap.size + 1 + 1 < _; omega)).trans h4, (hb.cell (p := ⟨w.heap.size + 1 + 1, 1, none⟩) (by show w.heap.size + 1 + 1 < _; omega)).trans h5⟩
def W3 (p q : Nd) (lat vert : Int) (w : World) : World := ((w.alloc (.cells #[.int .i64 p.t, .int .i64 p.x, .int .i64 p.y, .int .i64 p.h, .int .i64 p.r, .int .i64 p.b] 52)).alloc (.cells #[.int .i64 q.t, .int .i64 q.x, .int .i64 q.y, .int .i64 q.h, .int .i64 q.r, .int .i64 q.b] 52)).alloc (.cells #[.int .i64 lat, .int .i64 vert] 23)
theorem sp_three (p q : Nd) (lat vert : Int) (w : World) : SpF p q lat vert w (W3 p q lat vert w) ∧ (W3 p q lat vert w).heap.size = w.heap.size + 1 + 1 + 1 := by
 unfold W3
 have h1 := NdAt.new p w
 generalize hW1 : w.alloc (.cells #[.int .i64 p.t, .int .i64 p.x, .int .i64 p.y, .int .i64 p.h, .int .i64 p.r, .int .i64 p.b] 52) = W1 at *
 have z1 : W1.heap.size = w.heap.size + 1 := by rw [← hW1, size_al]
 have b1 : Below w.heap.size w W1 := by rw [← hW1]; exact (Below.refl _ w).alloc (Nat.le_refl _) _
 have h2 := NdAt.new q W1
 generalize hW2 : W1.alloc (.cells #[.int .i64 q.t, .int .i64 q.x, .int .i64 q.y, .int .i64 q.h, .int .i64 q.r, .int .i64 q.b] 52) = W2 at *
 have z2 : W2.heap.size = W1.heap.size + 1 := by rw [← hW2, size_al]
 have b2 : Below W1.heap.size W1 W2 := by rw [← hW2]; exact (Below.refl _ W1).alloc (Nat.le_refl _) _
 have h3 : (W2.alloc (.cells #[.int .i64 lat, .int .i64 vert] 23)).cell? ⟨W2.heap.size, 0, none⟩ = some (.int .i64 lat) := World.cell?_alloc_new _ _ _ _
 have h4 : (W2.alloc (.cells #[.int .i64 lat, .int .i64 vert] 23)).cell? ⟨W2.heap.size, 1, none⟩ = some (.int .i64 vert) := World.cell?_alloc_new _ _ _ _
 have b3 : Below W2.heap.size W2 (W2.alloc (.cells #[.int .i64 lat, .int .i64 vert] 23)) := (Below.refl _ W2).alloc (Nat.le_refl _) _
 have z3 := size_al W2 (.cells #[.int .i64 lat, .int .i64 vert] 23)
 generalize W2.alloc (.cells #[.int .i64 lat, .int .i64 vert] 23) = V at *
 rw [z1] at h2
 rw [z2, z1] at h3 h4
 exact ⟨⟨by omega, (b1.trans (b2.mono (by omega))).trans (b3.mono (by omega)), (h1.below b2 (by omega)).below b3 (by omega), h2.below b3 (by omega), h3, h4⟩, by omega⟩
theorem sp_tubes (p q : Nd) (w : World) : ∃ g0 g1 g2 : Nat, g0 = w.heap.size ∧ g1 = w.heap.size + 1 ∧ g2 = w.heap.size + 1 + 1 ∧
  (∀ W, W = ((w.alloc (.cells #[.int .i64 p.t, .int .i64 p.x, .int .i64 p.y, .int .i64 p.h, .int .i64 p.r, .int .i64 p.b] 52)).alloc (.cells #[.int .i64 q.t, .int .i64 q.x, .int .i64 q.y, .int .i64 q.h, .int .i64 q.r, .int .i64 q.b] 52)).alloc (.cells #[.slice (some ⟨g0, 0, none⟩) 1 1, .slice (some ⟨g1, 0, none⟩) 1 1] 44) →
   Below w.heap.size w W ∧ g2 < W.heap.size ∧ W.cell? ⟨g2, 0, none⟩ = some (.slice (some ⟨g0, 0, none⟩) 1 1) ∧ W.cell? ⟨g2, 1, none⟩ = some (.slice (some ⟨g1, 0, none⟩) 1 1) ∧ TuA (some ⟨g0, 0, none⟩) 1 [p] W ∧ TuA (some ⟨g1, 0, none⟩) 1 [q] W) := by
 refine ⟨_, _, _, rfl, rfl, rfl, ?_⟩
 rintro V rfl
 have h1 := NdAt.new p w
 generalize hW1 : w.alloc (.cells #[.int .i64 p.t, .int .i64 p.x, .int .i64 p.y, .int .i64 p.h, .int .i64 p.r, .int .i64 p.b] 52) = W1 at *
 have z1 : W1.heap.size = w.heap.size + 1 := by rw [← hW1, size_al]
 have b1 : Below w.heap.size w W1 := by rw [← hW1]; exact (Below.refl _ w).alloc (Nat.le_refl _) _
 have h2 := NdAt.new q W1
 generalize hW2 : W1.alloc (.cells #[.int .i64 q.t, .int .i64 q.x, .int .i64 q.y, .int .i64 q.h, .int .i64 q.r, .int .i64 q.b] 52) = W2 at *
 have z2 : W2.heap.size = W1.heap.size + 1 := by rw [← hW2, size_al]
 have b2 : Below W1.heap.size W1 W2 := by rw [← hW2]; exact (Below.refl _ W1).alloc (Nat.le_refl _) _
 have o := fun i => World.cell?_alloc_new W2 #[.slice (some ⟨w.heap.size, 0, none⟩) 1 1, .slice (some ⟨w.heap.size + 1, 0, none⟩) 1 1] 44 i
 have b3 : Below W2.heap.size W2 (W2.alloc (.cells #[.slice (some ⟨w.heap.size, 0, none⟩) 1 1, .slice (some ⟨w.heap.size + 1, 0, none⟩) 1 1] 44)) := (Below.refl _ W2).alloc (Nat.le_refl _) _
 have z3 := size_al W2 (.cells #[.slice (some ⟨w.heap.size, 0, none⟩) 1 1, .slice (some ⟨w.heap.size + 1, 0, none⟩) 1 1] 44)
 generalize W2.alloc (.cells #[.slice (some ⟨w.heap.size, 0, none⟩) 1 1, .slice (some ⟨w.heap.size + 1, 0, none⟩) 1 1] 44) = V at *
 rw [z1] at h2
 rw [z2, z1] at o
 have n1 := (h1.below b2 (by omega)).below b3 (by omega)
 have n2 := h2.below b3 (by omega)
 have tu : ∀ (b : Nat) (r : Nd), NdAt b r V → b < V.heap.size → TuA (some ⟨b, 0, none⟩) 1 [r] V := fun b r h hb => ⟨rfl, fun _ => ⟨b, 0, rfl, hb, fun i hi j v hv => by
  have hi0 : i = 0 := by omega
  subst hi0
  obtain ⟨k0, k1, k2, k3, k4, k5⟩ := h
  rw [Nat.zero_mul, Nat.zero_add]
  match j, hv with
  | 0, hv => cases hv; exact k0
  | 1, hv => cases hv; exact k1
  | 2, hv => cases hv; exact k2
  | 3, hv => cases hv; exact k3
  | 4, hv => cases hv; exact k4
  | 5, hv => cases hv; exact k5⟩⟩
 exact ⟨(b1.trans (b2.mono (by omega))).trans (b3.mono (by omega)), by omega, o 0, o 1, tu _ _ n1 (by omega), tu _ _ n2 (by omega)⟩
set_option maxRecDepth 100000 in
set_option maxHeartbeats 8000000 in
theorem Separated_any (p q : Nd) (lat vert : Int) (w : World) (hp : NdOk p) (hq : NdOk q) (ht : p.t = q.t) (h7 : 0 ≤ lat ∧ lat ≤ 1000000) (h8 : 0 ≤ vert ∧ vert ≤ 60000) :
  Calls Tryz.prog 154 #[ndA p, ndA q, .agg #[.int .i64 lat, .int .i64 vert]] w fun e w' => e = .returned (.tuple #[.bool (sepN p q lat vert), .int .i64 0]) ∧ Below w.heap.size w w' := by
 obtain ⟨s1, s2⟩ := sp_three p q lat vert w
 obtain ⟨g0, g1, g2, e0, e1, e2, hT⟩ := sp_tubes p q (W3 p q lat vert w)
 obtain ⟨t1, t2, t3, t4, t5, t6⟩ := hT _ rfl
 have HK := Lib.hid ((PrCheck_ok lat vert g2 2 (fun i => if i = 0 then some ⟨g0, 0, none⟩ else some ⟨g1, 0, none⟩) (fun _ => 1) (fun i => if i = 0 then [p] else [q]) _ h7 h8 t2 (by omega)
  (fun i hi => by
   by_cases h : i = 0
   ·subst h; exact t3
   ·have : i = 1 := by omega
    subst this; exact t4)
  (fun i hi => by
   by_cases h : i = 0
   ·subst h; exact ⟨t5, tuOne hp⟩
   ·have : i = 1 := by omega
    subst this; exact ⟨t6, tuOne hq⟩)).mono fun e W2 h => (show e = .returned (.int .i64 0) ∧ SpF p q lat vert w W2 from ⟨h.1, (s1.on t1).on h.2⟩))
 rw [s2] at e0 e1 e2
 subst e0 e1 e2
 have HS := Lib.hid (fun (W : World) (hb : SpF p q lat vert w W) => (separated_any p q lat vert W hp hq h7 h8).mono fun e W2 h => (show e = .returned (.bool (sepN p q lat vert)) ∧ Below w.heap.size w W2 from ⟨h.1, hb.2.1.trans (h.2.mono hb.2.1.size)⟩))
 unfold W3 at HK
 generalize sepN p q lat vert = z at *
 clear s1 s2 hT t1 t2 t3 t4 t5 t6 hp hq h7 h8
 obtain ⟨pt, px, py, ph, pr, pb⟩ := p
 obtain ⟨qt, qx, qy, qh, qr, qb⟩ := q
 simp only at ht
 subst ht
 unfold ndA at HS ⊢
 simp only at HS HK ⊢
 go_enter Tryz.func154, Tryz.ntmps154
 go_wp2_with (first
  | (go_at_call 193; go_loud (refine HK.out.mono ?_; rintro e w1 ⟨rfl, hF⟩; obtain ⟨z0, y1, ⟨a0, a1, a2, a3, a4, a5⟩, ⟨b0, b1, b2, b3, b4, b5⟩, c0, c1⟩ := id hF; simp only at a0 a1 a2 a3 a4 a5 b0 b1 b2 b3 b4 b5))
  | (go_at_call 194; go_loud (refine (HS.out _ (by exact hF)).mono ?_; rintro e w2 ⟨rfl, hb2⟩)))
 go_ret2
 exact ⟨rfl, hb2⟩
end
section
open Go.RowKit
theorem tuA_one {b : Nat} {r : Nd} {V : World} (h : NdAt b r V) (hb : b < V.heap.size) : TuA (some ⟨b, 0, none⟩) 1 [r] V := ⟨rfl, fun _ => ⟨b, 0, rfl, hb, fun i hi j v hv => by
 have hi0 : i = 0 := by omega
 subst hi0
 obtain ⟨k0, k1, k2, k3, k4, k5⟩ := h
 rw [Nat.zero_mul, Nat.zero_add]
 match j, hv with
 | 0, hv => cases hv; exact k0
 | 1, hv => cases hv; exact k1
 | 2, hv => cases hv; exact k2
 | 3, hv => cases hv; exact k3
 | 4, hv => cases hv; exact k4
 | 5, hv => cases hv; exact k5⟩⟩
set_option maxRecDepth 100000 in
set_option maxHeartbeats 8000000 in
theorem Cut_one (A : Option Addr) (n c : Nat) (l : Tu) (t : Int) (w : World) (hA : TuA A n l w) (hok : TuOk l) (h0 : fstT l ≤ t) (h1 : t ≤ lstT l) :
  Calls Tryz.prog 112 #[.slice A n c, .int .i64 t, .int .i64 t] w fun e w' => ∃ g : Nat, e = .returned (.tuple #[.slice (some ⟨g, 0, none⟩) 1 1, .int .i64 0]) ∧ TuA (some ⟨g, 0, none⟩) 1 [atN l t] w' ∧ Below w.heap.size w w' := by
 have hl := hA.1
 have hn0 := hok.n0
 have hn := hok.n1
 rw [hl] at hn0 hn
 have HC := Lib.hid (fun (W : World) (hb : Below w.heap.size w W) => (TCheck_any A n c l W (hA.below hb) (by unfold maxLen; omega)).mono fun e W2 h => (show e = .returned (.int .i64 0) ∧ Below w.heap.size w W2 from ⟨by rw [h.1, hok.e], hb.trans (h.2.mono hb.size)⟩))
 have HE := Lib.hid (fun (W : World) (hb : Below w.heap.size w W) => (Ends_any A n c l W (hA.below hb) (by omega) (by omega)).mono fun e W2 h => (show e = .returned (.tuple #[.int .i64 (fstT l), .int .i64 (lstT l)]) ∧ Below w.heap.size w W2 from ⟨h.1, hb.trans (h.2.mono hb.size)⟩))
 have HA := Lib.hid (fun (W : World) (hb : Below w.heap.size w W) => (at_any A n c l t W (hA.below hb) hok h0 h1).mono fun e W2 h => (show e = .returned (ndA (atN l t)) ∧ Below w.heap.size w W2 from ⟨h.1, hb.trans (h.2.mono hb.size)⟩))
 obtain ⟨bb, off, rfl, hbb, hr⟩ := hA.2 (by omega)
 have HR := Lib.hid hr
 have e1 : decide (t < fstT l) = false := decide_eq_false (by omega)
 have e2 : decide (lstT l < t) = false := decide_eq_false (by omega)
 generalize atN l t = q at *
 generalize fstT l = a at *
 generalize lstT l = b at *
 obtain ⟨qt, qx, qy, qh, qr, qb⟩ := q
 unfold ndA at HA
 simp only at HA
 have hn0' : (0 : Int) ≤ (n : Int) := by omega
 clear hr hA hok h0 h1
 go_enter Tryz.func112, Tryz.ntmps112
 go_wp2_with (first
  | (go_at_call 47; go_loud (refine (HC.out _ (by exact Below.refl _ w)).mono ?_; rintro e w1 ⟨rfl, hb1⟩))
  | (go_at_call 48; go_loud (refine (HE.out _ (by exact hb1)).mono ?_; rintro e w2 ⟨rfl, hb2⟩))
  | (go_at_call 49; go_loud (refine (HA.out _ (by exact hb2)).mono ?_; rintro e w3 ⟨rfl, hb3⟩; have HB3 := Lib.hid hb3)))
 go_loopw [11, 43] (fun v i wr => v = .slice (some ⟨w3.heap.size, 0, none⟩) 1 1 ∧ ∃ j : Nat, j ≤ n ∧ i = .int .i64 (j : Int) ∧ Hid (Below w.heap.size w wr) ∧ Hid (NdAt w3.heap.size ⟨qt, qx, qy, qh, qr, qb⟩ wr) ∧ w3.heap.size < wr.heap.size) (fun _ i _ => n - (intOf i).toNat)
 case atStart => exact ⟨rfl, 0, by omega, rfl, Lib.hid (HB3.out.alloc HB3.out.size _), Lib.hid (NdAt.new ⟨qt, qx, qy, qh, qr, qb⟩ w3), by rw [size_al]; omega⟩
 case round =>
  obtain ⟨rfl, j, hj, rfl, HB, HN, hz⟩ := hrel
  by_cases hlt : j < n
  ·have l1 : (j : Int) < (n : Int) := by omega
   have l0 : (0 : Int) ≤ (j : Int) := by omega
   have hcs : ∀ q v, (ndV l[j]!)[q]? = some v → wr.cell? ⟨bb, off + j * 6 + q, none⟩ = some v := fun q v hv => (HB.out.cell (p := ⟨bb, off + j * 6 + q, none⟩) hbb).trans (HR.out j hlt q v hv)
   generalize l[j]! = x at hcs
   have d0 : wr.cell? ⟨bb, off + j * 6, none⟩ = some (.int .i64 x.t) := hcs 0 _ rfl
   have d1 : wr.cell? ⟨bb, off + j * 6 + 1, none⟩ = some (.int .i64 x.x) := hcs 1 _ rfl
   have d2 : wr.cell? ⟨bb, off + j * 6 + 2, none⟩ = some (.int .i64 x.y) := hcs 2 _ rfl
   have d3 : wr.cell? ⟨bb, off + j * 6 + 3, none⟩ = some (.int .i64 x.h) := hcs 3 _ rfl
   have d4 : wr.cell? ⟨bb, off + j * 6 + 4, none⟩ = some (.int .i64 x.r) := hcs 4 _ rfl
   have d5 : wr.cell? ⟨bb, off + j * 6 + 5, none⟩ = some (.int .i64 x.b) := hcs 5 _ rfl
   have hba : Below wr.heap.size wr (wr.alloc (.cells #[.int .i64 x.t, .int .i64 x.x, .int .i64 x.y, .int .i64 x.h, .int .i64 x.r, .int .i64 x.b] 52)) := (Below.refl _ wr).alloc (Nat.le_refl _) _
   have HB2 := Lib.hid (bstep HB.out hba)
   have HN2 := Lib.hid (HN.out.below hba hz)
   have hz2 : w3.heap.size < (wr.alloc (.cells #[.int .i64 x.t, .int .i64 x.x, .int .i64 x.y, .int .i64 x.h, .int .i64 x.r, .int .i64 x.b] 52)).heap.size := by rw [size_al]; omega
   have HZ2 := Lib.hid hz2
   clear hcs hba hz2
   by_cases ht : t < x.t
   ·have a1 : decide (t < x.t) = true := decide_eq_true ht
    have a2 : decide (x.t < t) = false := decide_eq_false (by omega)
    clear ht
    go_wp2_with fail
    go_roundw
    case rel => exact ⟨rfl, j + 1, by omega, by go_num, HB2, HN2, HZ2.out⟩
    case measure => simp [intOf]; omega
   ·have a1 : decide (t < x.t) = false := decide_eq_false ht
    clear ht
    go_wp2_with fail
    go_roundw
    case rel => exact ⟨rfl, j + 1, by omega, by go_num, HB2, HN2, HZ2.out⟩
    case measure => simp [intOf]; omega
  ·obtain rfl : n = j := by omega
   go_wp2_with fail
   go_ret2
   exact ⟨_, rfl, tuA_one HN.out hz, HB.out⟩
end
section
open Go.RowKit
def IsUp (n s : Int) : Prop := 0 ≤ s ∧ s ≤ 3037000500 ∧ ∀ D : Int, 0 ≤ D → (s ≤ D ↔ n ≤ D * D)
theorem isUp_of {n r : Int} (h : IsRoot n r) : IsUp n (if r * r < n then r + 1 else r) := by
 obtain ⟨h0, h1, h2, h3⟩ := h
 split
 ·next hlt =>
  refine ⟨by omega, by omega, fun D hD => ⟨fun h => ?_, fun h => ?_⟩⟩
  ·have := Int.mul_le_mul h h (show 0 ≤ r + 1 by omega) hD
   omega
  ·have := mul_lt_sq h0 hD (by omega)
   omega
 ·next hlt =>
  refine ⟨h0, by omega, fun D hD => ⟨fun h => ?_, fun h => ?_⟩⟩
  ·have := Int.mul_le_mul h h h0 hD
   omega
  ·have := mul_lt_sq h0 (show 0 ≤ D + 1 by omega) (by have e : (D + 1) * (D + 1) = D * D + 2 * D + 1 := by rw [Int.add_mul, Int.mul_add]; omega
                                                      omega)
   omega
set_option maxRecDepth 100000 in
set_option maxHeartbeats 4000000 in
theorem DistUp_any (a b c d : Int) (w : World) (h1 : Bd 1000000 a) (h2 : Bd 1000000 b) (h3 : Bd 1000000 c) (h4 : Bd 1000000 d) : Calls Tryz.prog 164 #[.agg #[.int .i64 a, .int .i64 b], .agg #[.int .i64 c, .int .i64 d]] w fun e w' => (∃ r s, e = .returned (.tuple #[.int .i64 r, .int .i64 s]) ∧ IsUp (sqI a b c d) s) ∧ Below w.heap.size w w' := by
 have HS := Lib.hid (fun W => Square_any a b c d W h1 h2 h3 h4)
 have m1 := mul_bd (m := 2000000) (a := a - c) (b := a - c) (by omega) (by omega)
 have m2 := mul_bd (m := 2000000) (a := b - d) (b := b - d) (by omega) (by omega)
 have m3 : 0 ≤ (a - c) * (a - c) := by
  rcases Int.le_total 0 (a - c) with h | h
  ·exact Int.mul_nonneg h h
  ·exact Int.mul_nonneg_of_nonpos_of_nonpos h h
 have m4 : 0 ≤ (b - d) * (b - d) := by
  rcases Int.le_total 0 (b - d) with h | h
  ·exact Int.mul_nonneg h h
  ·exact Int.mul_nonneg_of_nonpos_of_nonpos h h
 have HR := Lib.hid (fun W => Root_any (sqI a b c d) W (by unfold sqI; omega) (by unfold sqI; omega))
 have hnb : 0 ≤ sqI a b c d ∧ sqI a b c d ≤ 1000000000000000 := by unfold sqI; omega
 generalize sqI a b c d = n at *
 have HN := Lib.hid hnb
 clear h1 h2 h3 h4 m1 m2 m3 m4 hnb
 go_enter Tryz.func164, Tryz.ntmps164
 go_wp2_with (first
  | (go_at_call 75; go_loud (refine (HS.out _).mono ?_; rintro e w1 ⟨rfl, hb1⟩; have HB1 := Lib.hid ((((Below.refl _ w).alloc (Nat.le_refl _) _).alloc (by simp) _).trans (hb1.mono (by simp; omega))); clear hb1))
  | (go_at_call 198; go_loud (refine (HR.out _).mono ?_; rintro e w2 ⟨⟨r, rfl, hr⟩, rfl⟩; have HRt := Lib.hid hr; have HU := Lib.hid (isUp_of hr); have k0 : IntKind.i64.wrap (r * r) = r * r := (IntWalk.i64_in _ (by have := HN.out; have := hr.2.1; have := Int.mul_nonneg hr.1 hr.1; omega)); have k1 : IntKind.i64.wrap (r + 1) = r + 1 := (IntWalk.i64_in _ (by have := hr.1; have := hr.2.2.2; omega)); clear hr)))
 all_goals
  go_ret2
  first
   | exact ⟨⟨_, _, rfl, by have h := HU.out; rw [if_pos (by assumption)] at h; exact h⟩, HB1.out⟩
   | exact ⟨⟨_, _, rfl, by have h := HU.out; rw [if_neg (Int.not_lt.2 (by assumption))] at h; exact h⟩, HB1.out⟩
def insN (q : Nd) (l : Tu) : Bool := decide (fstT l ≤ q.t) && decide (q.t ≤ lstT l) && (decide (q.r ≤ (atN l q.t).r) && decide (sqI q.x q.y (atN l q.t).x (atN l q.t).y ≤ ((atN l q.t).r - q.r) * ((atN l q.t).r - q.r)) && decide (max (q.h - (atN l q.t).h) ((atN l q.t).h - q.h) + q.b ≤ (atN l q.t).b))
theorem atN_one (q : Nd) : atN [q] q.t = q := by
 unfold atN lowT
 have : List.countP (fun n => decide (n.t < q.t)) [q] = 0 := by simp
 rw [this]
 simp
set_option maxRecDepth 100000 in
set_option maxHeartbeats 8000000 in
theorem Inside_out (A : Option Addr) (n c : Nat) (q : Nd) (B : Option Addr) (m d : Nat) (l : Tu) (w : World) (hA : TuA A n [q] w) (hq : NdOk q) (hB : TuA B m l w) (hl : TuOk l) (hout : q.t < fstT l ∨ lstT l < q.t) :
  Calls Tryz.prog 113 #[.slice A n c, .slice B m d] w fun e w' => e = .returned (.tuple #[.bool false, .int .i64 0]) ∧ Below w.heap.size w w' := by
 have hm := hl.n1
 have hm0 := hl.n0
 rw [hB.1] at hm hm0
 have hn : n = 1 := hA.1.symm
 have HC1 := Lib.hid (fun (W : World) (hb : Below w.heap.size w W) => (TCheck_any A n c [q] W (hA.below hb) (by unfold maxLen; omega)).mono fun e W2 h => (show e = .returned (.int .i64 0) ∧ Below w.heap.size w W2 ∧ Below W.heap.size W W2 from ⟨by rw [h.1, (tuOne hq).e], hb.trans (h.2.mono hb.size), h.2⟩))
 have HC2 := Lib.hid (fun (W : World) (hb : Below w.heap.size w W) => (TCheck_any B m d l W (hB.below hb) (by unfold maxLen; omega)).mono fun e W2 h => (show e = .returned (.int .i64 0) ∧ Below w.heap.size w W2 ∧ Below W.heap.size W W2 from ⟨by rw [h.1, hl.e], hb.trans (h.2.mono hb.size), h.2⟩))
 have HE1 := Lib.hid (fun (W : World) (hb : Below w.heap.size w W) => (Ends_any A n c [q] W (hA.below hb) (by omega) (by omega)).mono fun e W2 h => (show e = .returned (.tuple #[.int .i64 q.t, .int .i64 q.t]) ∧ Below w.heap.size w W2 from ⟨h.1, hb.trans (h.2.mono hb.size)⟩))
 have HE2 := Lib.hid (fun (W : World) (hb : Below w.heap.size w W) => (Ends_any B m d l W (hB.below hb) (by omega) (by omega)).mono fun e W2 h => (show e = .returned (.tuple #[.int .i64 (fstT l), .int .i64 (lstT l)]) ∧ Below w.heap.size w W2 from ⟨h.1, hb.trans (h.2.mono hb.size)⟩))
 generalize fstT l = a at *
 generalize lstT l = b at *
 obtain ⟨qt, qx, qy, qh, qr, qb⟩ := q
 simp only at *
 clear hm hm0 hn hA hB hl hq
 have tok : True := trivial
 have tok2 : True := trivial
 go_enter Tryz.func113, Tryz.ntmps113
 go_wp2_with fail
 go_loopw [22] (fun i wr => ∃ j : Int, (j = 0 ∨ j = 1 ∨ j = 2) ∧ i = .int .i64 j ∧ Hid (Below w.heap.size w wr) ∧ Hid (wr.cell? ⟨w.heap.size, 0, none⟩ = some (.slice A n c) ∧ wr.cell? ⟨w.heap.size, 1, none⟩ = some (.slice B m d) ∧ w.heap.size < wr.heap.size)) (fun i _ => (2 - intOf i).toNat)
 case atStart => exact ⟨0, .inl rfl, rfl, Lib.hid ((Below.refl _ w).alloc (Nat.le_refl _) _), Lib.hid ⟨by simp, by simp, by simp⟩⟩
 case round =>
  obtain ⟨j, hj, rfl, HB, HK⟩ := hrel
  rcases hj with rfl | rfl | rfl
  ·have hk := HK.out
   have d0 := hk.1
   clear hk
   go_wp2_with (go_at_call 47; go_loud (refine (HC1.out _ HB.out).mono ?_; rintro e w2 ⟨rfl, hb2, hb3⟩))
   go_roundw
   case rel => exact ⟨1, .inr (.inl rfl), rfl, Lib.hid hb2, Lib.hid ⟨(hb3.cell HK.out.2.2).trans HK.out.1, (hb3.cell HK.out.2.2).trans HK.out.2.1, Nat.lt_of_lt_of_le HK.out.2.2 hb3.size⟩⟩
   case measure => decide
  ·have hk := HK.out
   have d0 := hk.2.1
   clear hk
   go_wp2_with (go_at_call 47; go_loud (refine (HC2.out _ HB.out).mono ?_; rintro e w2 ⟨rfl, hb2, hb3⟩))
   go_roundw
   case rel => exact ⟨2, .inr (.inr rfl), rfl, Lib.hid hb2, Lib.hid ⟨(hb3.cell HK.out.2.2).trans HK.out.1, (hb3.cell HK.out.2.2).trans HK.out.2.1, Nat.lt_of_lt_of_le HK.out.2.2 hb3.size⟩⟩
   case measure => decide
  ·go_wp2_with (first
    | (go_at_call 48; go_loud (first
     | (have _t := tok; refine (HE1.out _ HB.out).mono ?_; rintro e w3 ⟨rfl, hb3⟩; clear tok)
     | (refine (HE2.out _ (by exact hb3)).mono ?_; rintro e w4 ⟨rfl, hb4⟩))))
   all_goals
    go_ret2
    exact ⟨rfl, hb4⟩
end
section
open Go.RowKit
theorem ins_no {sq s qr yr M yb : Int} (h : IsUp sq s) (hn : yr < s + qr ∨ yb < M) : (decide (qr ≤ yr) && decide (sq ≤ (yr - qr) * (yr - qr)) && decide (M ≤ yb)) = false := by
 by_cases h1 : qr ≤ yr
 ·by_cases h2 : sq ≤ (yr - qr) * (yr - qr)
  ·have := (h.2.2 (yr - qr) (by omega)).2 h2
   rw [decide_eq_false (show ¬ M ≤ yb by omega), Bool.and_false]
  ·rw [decide_eq_false h2, Bool.and_false, Bool.false_and]
 ·rw [decide_eq_false h1, Bool.false_and, Bool.false_and]
theorem ins_yes {sq s qr yr M yb : Int} (h : IsUp sq s) (h1 : s + qr ≤ yr) (h2 : M ≤ yb) : (decide (qr ≤ yr) && decide (sq ≤ (yr - qr) * (yr - qr)) && decide (M ≤ yb)) = true := by
 have h0 := h.1
 rw [decide_eq_true (show qr ≤ yr by omega), decide_eq_true ((h.2.2 (yr - qr) (by omega)).1 (by omega)), decide_eq_true h2]
 rfl
theorem two_plain (a b : Nd) (W W2 : World) (hb : Below ((W.alloc (.cells #[.int .i64 a.t, .int .i64 a.x, .int .i64 a.y, .int .i64 a.h, .int .i64 a.r, .int .i64 a.b] 52)).alloc (.cells #[.int .i64 b.t, .int .i64 b.x, .int .i64 b.y, .int .i64 b.h, .int .i64 b.r, .int .i64 b.b] 52)).heap.size ((W.alloc (.cells #[.int .i64 a.t, .int .i64 a.x, .int .i64 a.y, .int .i64 a.h, .int .i64 a.r, .int .i64 a.b] 52)).alloc (.cells #[.int .i64 b.t, .int .i64 b.x, .int .i64 b.y, .int .i64 b.h, .int .i64 b.r, .int .i64 b.b] 52)) W2) :
  NdAt W.heap.size a W2 ∧ NdAt (W.heap.size + 1) b W2 ∧ Below W.heap.size W W2 := by
 have h1 := NdAt.new a W
 generalize hW1 : W.alloc (.cells #[.int .i64 a.t, .int .i64 a.x, .int .i64 a.y, .int .i64 a.h, .int .i64 a.r, .int .i64 a.b] 52) = W1 at *
 have z1 : W1.heap.size = W.heap.size + 1 := by rw [← hW1, size_al]
 have b1 : Below W.heap.size W W1 := by rw [← hW1]; exact (Below.refl _ W).alloc (Nat.le_refl _) _
 have h2 := NdAt.new b W1
 generalize hW2 : W1.alloc (.cells #[.int .i64 b.t, .int .i64 b.x, .int .i64 b.y, .int .i64 b.h, .int .i64 b.r, .int .i64 b.b] 52) = W3 at *
 have z2 : W3.heap.size = W1.heap.size + 1 := by rw [← hW2, size_al]
 have b2 : Below W1.heap.size W1 W3 := by rw [← hW2]; exact (Below.refl _ W1).alloc (Nat.le_refl _) _
 rw [z1] at h2
 exact ⟨(h1.below b2 (by omega)).below hb (by omega), h2.below hb (by omega), (b1.trans (b2.mono (by omega))).trans (hb.mono (by omega))⟩
set_option maxRecDepth 100000 in
set_option maxHeartbeats 8000000 in
theorem Inside_in (A : Option Addr) (n c : Nat) (q : Nd) (B : Option Addr) (m d : Nat) (l : Tu) (w : World) (hA : TuA A n [q] w) (hq : NdOk q) (hB : TuA B m l w) (hl : TuOk l) (h0 : fstT l ≤ q.t) (h1 : q.t ≤ lstT l) :
  Calls Tryz.prog 113 #[.slice A n c, .slice B m d] w fun e w' => e = .returned (.tuple #[.bool (insN q l), .int .i64 0]) ∧ Below w.heap.size w w' := by
 have hm := hl.n1
 have hm0 := hl.n0
 rw [hB.1] at hm hm0
 have hn : n = 1 := hA.1.symm
 have HC1 := Lib.hid (fun (W : World) (hb : Below w.heap.size w W) => (TCheck_any A n c [q] W (hA.below hb) (by unfold maxLen; omega)).mono fun e W2 h => (show e = .returned (.int .i64 0) ∧ Below w.heap.size w W2 ∧ Below W.heap.size W W2 from ⟨by rw [h.1, (tuOne hq).e], hb.trans (h.2.mono hb.size), h.2⟩))
 have HC2 := Lib.hid (fun (W : World) (hb : Below w.heap.size w W) => (TCheck_any B m d l W (hB.below hb) (by unfold maxLen; omega)).mono fun e W2 h => (show e = .returned (.int .i64 0) ∧ Below w.heap.size w W2 ∧ Below W.heap.size W W2 from ⟨by rw [h.1, hl.e], hb.trans (h.2.mono hb.size), h.2⟩))
 have HE1 := Lib.hid (fun (W : World) (hb : Below w.heap.size w W) => (Ends_any A n c [q] W (hA.below hb) (by omega) (by omega)).mono fun e W2 h => (show e = .returned (.tuple #[.int .i64 q.t, .int .i64 q.t]) ∧ Below w.heap.size w W2 from ⟨h.1, hb.trans (h.2.mono hb.size)⟩))
 have HE2 := Lib.hid (fun (W : World) (hb : Below w.heap.size w W) => (Ends_any B m d l W (hB.below hb) (by omega) (by omega)).mono fun e W2 h => (show e = .returned (.tuple #[.int .i64 (fstT l), .int .i64 (lstT l)]) ∧ Below w.heap.size w W2 from ⟨h.1, hb.trans (h.2.mono hb.size)⟩))
 have HA1 := Lib.hid (fun (W : World) (hb : Below w.heap.size w W) => (at_any A n c [q] q.t W (hA.below hb) (tuOne hq) (Int.le_refl _) (Int.le_refl _)).mono fun e W2 h => (show e = .returned (ndA q) ∧ Below w.heap.size w W2 from ⟨by rw [h.1, atN_one], hb.trans (h.2.mono hb.size)⟩))
 have HA2 := Lib.hid (fun (W : World) (hb : Below w.heap.size w W) => (at_any B m d l q.t W (hB.below hb) hl h0 h1).mono fun e W2 h => (show e = .returned (ndA (atN l q.t)) ∧ Below w.heap.size w W2 from ⟨h.1, hb.trans (h.2.mono hb.size)⟩))
 have hR : insN q l = (decide (q.r ≤ (atN l q.t).r) && decide (sqI q.x q.y (atN l q.t).x (atN l q.t).y ≤ ((atN l q.t).r - q.r) * ((atN l q.t).r - q.r)) && decide (max (q.h - (atN l q.t).h) ((atN l q.t).h - q.h) + q.b ≤ (atN l q.t).b)) := by
  unfold insN
  rw [decide_eq_true h0, decide_eq_true h1]
  rfl
 have hy := (atN_ok hl h0 h1).1
 have e1 : decide (q.t < fstT l) = false := decide_eq_false (by omega)
 have e2 : decide (lstT l < q.t) = false := decide_eq_false (by omega)
 generalize insN q l = z at *
 generalize atN l q.t = y at *
 have HD := Lib.hid (fun W => DistUp_any q.x q.y y.x y.y W ⟨hq.x0, hq.x1⟩ ⟨hq.y0, hq.y1⟩ ⟨hy.x0, hy.x1⟩ ⟨hy.y0, hy.y1⟩)
 obtain ⟨z0, z1, _, _, _, _, a1, a2, a3, a4, a5, a6⟩ := id hq
 obtain ⟨_, _, _, _, _, _, b1, b2, b3, b4, b5, b6⟩ := hy
 generalize fstT l = a at *
 generalize lstT l = b at *
 obtain ⟨qt, qx, qy, qh, qr, qb⟩ := q
 obtain ⟨yt, yx, yy, yh, yr, yb⟩ := y
 unfold ndA at HA1 HA2
 simp only at *
 generalize sqI qx qy yx yy = sq at *
 have HR := Lib.hid hR
 have v1 : IntKind.i64.wrap (qh - yh) = qh - yh := IntWalk.i64_in _ (by omega)
 have v2 : IntKind.i64.wrap (yh - qh) = yh - qh := IntWalk.i64_in _ (by omega)
 have v3 : IntKind.i64.wrap (max (qh - yh) (yh - qh) + qb) = max (qh - yh) (yh - qh) + qb := IntWalk.i64_in _ (by omega)
 have v4 : IntKind.i64.wrap (qt + 1) = qt + 1 := IntWalk.i64_in _ (by omega)
 have v5 : decide (qt + 1 ≤ qt) = false := decide_eq_false (by omega)
 clear hR hm hm0 hn hA hB hl hq h0 h1
 have tok : True := trivial
 have tok2 : True := trivial
 go_enter Tryz.func113, Tryz.ntmps113
 go_wp2_with fail
 go_loopw [22] (fun i wr => ∃ j : Int, (j = 0 ∨ j = 1 ∨ j = 2) ∧ i = .int .i64 j ∧ Hid (Below w.heap.size w wr) ∧ Hid (wr.cell? ⟨w.heap.size, 0, none⟩ = some (.slice A n c) ∧ wr.cell? ⟨w.heap.size, 1, none⟩ = some (.slice B m d) ∧ w.heap.size < wr.heap.size)) (fun i _ => (2 - intOf i).toNat)
 case atStart => exact ⟨0, .inl rfl, rfl, Lib.hid ((Below.refl _ w).alloc (Nat.le_refl _) _), Lib.hid ⟨by simp, by simp, by simp⟩⟩
 case round =>
  obtain ⟨j, hj, rfl, HB, HK⟩ := hrel
  rcases hj with rfl | rfl | rfl
  ·have hk := HK.out
   have d0 := hk.1
   clear hk
   go_wp2_with (go_at_call 47; go_loud (refine (HC1.out _ HB.out).mono ?_; rintro e w2 ⟨rfl, hb2, hb3⟩))
   go_roundw
   case rel => exact ⟨1, .inr (.inl rfl), rfl, Lib.hid hb2, Lib.hid ⟨(hb3.cell HK.out.2.2).trans HK.out.1, (hb3.cell HK.out.2.2).trans HK.out.2.1, Nat.lt_of_lt_of_le HK.out.2.2 hb3.size⟩⟩
   case measure => decide
  ·have hk := HK.out
   have d0 := hk.2.1
   clear hk
   go_wp2_with (go_at_call 47; go_loud (refine (HC2.out _ HB.out).mono ?_; rintro e w2 ⟨rfl, hb2, hb3⟩))
   go_roundw
   case rel => exact ⟨2, .inr (.inr rfl), rfl, Lib.hid hb2, Lib.hid ⟨(hb3.cell HK.out.2.2).trans HK.out.1, (hb3.cell HK.out.2.2).trans HK.out.2.1, Nat.lt_of_lt_of_le HK.out.2.2 hb3.size⟩⟩
   case measure => decide
  ·go_wp2_with (first
    | (go_at_call 48; go_loud (first
     | (have _t := tok; refine (HE1.out _ HB.out).mono ?_; rintro e w3 ⟨rfl, hb3⟩; clear tok)
     | (refine (HE2.out _ (by exact hb3)).mono ?_; rintro e w4 ⟨rfl, hb4⟩))))
   go_loopw [13] (fun t wr => Hid (Below w.heap.size w wr) ∧ (t = .int .i64 qt ∨ t = .int .i64 (qt + 1) ∧ Hid (z = true))) (fun t _ => (qt + 1 - intOf t).toNat)
   case atStart => exact ⟨Lib.hid hb4, .inl rfl⟩
   case round =>
    obtain ⟨HB5, rfl | ⟨rfl, HZ⟩⟩ := hrel
    ·go_wp2_with (first
      | (go_at_call 49; go_loud (first
       | (have _t := tok2; refine (HA1.out _ HB5.out).mono ?_; rintro e w6 ⟨rfl, hb6⟩; clear tok2)
       | (refine (HA2.out _ (by exact hb6)).mono ?_; rintro e w7 ⟨rfl, hb7⟩)))
      | (go_at_call 164; go_loud (refine (HD.out _).mono ?_; rintro e w8 ⟨⟨r, s, rfl, hs⟩, hb8⟩; obtain ⟨⟨_, _, _, m3, m4, m5⟩, ⟨_, _, _, n3, n4, n5⟩, hb9⟩ := two_plain ⟨qt, qx, qy, qh, qr, qb⟩ ⟨yt, yx, yy, yh, yr, yb⟩ w7 w8 hb8; simp only at m3 m4 m5 n3 n4 n5; have HS := Lib.hid hs; have HB9 := Lib.hid (hb7.trans (hb9.mono hb7.size)); have v6 : IntKind.i64.wrap (s + qr) = s + qr := (IntWalk.i64_in _ (by have := hs.1; have := hs.2.1; omega)); clear hs hb8 hb9)))
     all_goals first
      | (go_ret2; exact ⟨by rw [HR.out, ins_no HS.out (by omega)]; rfl, HB9.out⟩)
      | (go_roundw
         case rel => exact ⟨HB9, .inr ⟨rfl, Lib.hid (by rw [HR.out]; exact ins_yes HS.out (by omega) (by omega))⟩⟩
         case measure => simp [intOf]; omega)
    ·go_wp2_with fail
     go_ret2
     exact ⟨by rw [HZ.out]; rfl, HB5.out⟩
theorem Inside_one (A : Option Addr) (n c : Nat) (q : Nd) (B : Option Addr) (m d : Nat) (l : Tu) (w : World) (hA : TuA A n [q] w) (hq : NdOk q) (hB : TuA B m l w) (hl : TuOk l) :
  Calls Tryz.prog 113 #[.slice A n c, .slice B m d] w fun e w' => e = .returned (.tuple #[.bool (insN q l), .int .i64 0]) ∧ Below w.heap.size w w' := by
 by_cases h : q.t < fstT l ∨ lstT l < q.t
 ·refine (Inside_out A n c q B m d l w hA hq hB hl h).mono fun e W he => ⟨?_, he.2⟩
  have : insN q l = false := by
   unfold insN
   rcases h with h | h
   ·rw [decide_eq_false (show ¬ fstT l ≤ q.t by omega), Bool.false_and, Bool.false_and]
   ·rw [decide_eq_false (show ¬ q.t ≤ lstT l by omega), Bool.and_false, Bool.false_and]
  rw [this]
  exact he.1
 ·exact Inside_in A n c q B m d l w hA hq hB hl (by omega) (by omega)
end
section
open Go.RowKit
set_option maxRecDepth 100000 in
set_option maxHeartbeats 4000000 in
theorem first_any (A : Option Addr) (n c : Nat) (l : Tu) (w : World) (hA : TuA A n l w) (h0 : 0 < n) :
  Calls Tryz.prog 82 #[.slice A n c] w fun e w' => e = .returned (.int .i64 (fstT l)) ∧ w' = w := by
 obtain ⟨_, hS⟩ := hA
 obtain ⟨bb, off, rfl, _, hr⟩ := hS h0
 have c0 : w.cell? ⟨bb, off, none⟩ = some (.int .i64 (fstT l)) := by have := hr 0 h0 0 _ rfl; rw [Nat.zero_mul, Nat.add_zero] at this; exact this
 have h1 : (0 : Int) < (n : Int) := by omega
 clear hr hS
 generalize fstT l = x at *
 go_enter Tryz.func82, Tryz.ntmps82
 go_wp2_with fail
 go_ret
 exact ⟨rfl, rfl⟩
set_option maxRecDepth 100000 in
set_option maxHeartbeats 4000000 in
theorem last_any (A : Option Addr) (n c : Nat) (l : Tu) (w : World) (hA : TuA A n l w) (h0 : 0 < n) (hn : n ≤ 64) :
  Calls Tryz.prog 104 #[.slice A n c] w fun e w' => e = .returned (.int .i64 (lstT l)) ∧ w' = w := by
 obtain ⟨hl, hS⟩ := hA
 obtain ⟨bb, off, rfl, _, hr⟩ := hS h0
 have c1 : w.cell? ⟨bb, off + (n - 1) * 6, none⟩ = some (.int .i64 (lstT l)) := by have := hr (n - 1) (by omega) 0 _ rfl; unfold lstT; rw [hl]; exact this
 have hw : IntKind.i64.wrap ((n : Int) - 1) = ((n - 1 : Nat) : Int) := by rw [IntWalk.i64_in _ (by omega)]; omega
 have l0 : (0 : Int) ≤ ((n - 1 : Nat) : Int) := by omega
 have l1 : ((n - 1 : Nat) : Int) < (n : Int) := by omega
 clear hr hl hS
 generalize n - 1 = m at *
 generalize lstT l = y at *
 go_enter Tryz.func104, Tryz.ntmps104
 go_wp2_with fail
 go_ret
 exact ⟨rfl, rfl⟩
end
section
open Go.RowKit
def wr (cur : Array Value) : Nat → List Value → Array Value
 | _, [] => cur
 | o, v :: vs => wr (cur.setIfInBounds o v) (o + 1) vs
theorem wr_size : ∀ (vs : List Value) (cur : Array Value) (o : Nat), (wr cur o vs).size = cur.size
 | [], _, _ => rfl
 | v :: vs, cur, o => by rw [wr, wr_size vs]; simp
theorem wr_get : ∀ (vs : List Value) (cur : Array Value) (o p : Nat), o + vs.length ≤ cur.size → (wr cur o vs)[p]? = if o ≤ p ∧ p < o + vs.length then vs[p - o]? else cur[p]?
 | [], cur, o, p, _ => by rw [wr, if_neg (fun h => by simp at h; omega)]
 | v :: vs, cur, o, p, h => by
  simp only [List.length_cons] at h
  rw [wr, wr_get vs _ _ _ (by simp; omega)]
  by_cases h1 : o + 1 ≤ p ∧ p < o + 1 + vs.length
  ·rw [if_pos h1, if_pos (by simp; omega)]
   rw [show p - o = (p - (o + 1)) + 1 by omega, List.getElem?_cons_succ]
  ·rw [if_neg h1]
   by_cases h2 : p = o
   ·subst h2
    have hp : p < cur.size := by omega
    rw [if_pos (by simp)]
    simp [hp]
   ·rw [if_neg (by simp; omega), Array.getElem?_setIfInBounds_ne (by omega)]
theorem setCells_heap {b : Nat} {e : TypeId} : ∀ (vs : List Value) (cur : Array Value) (o : Nat) (w : World), w.heap[b]? = some (.cells cur e (0, 0)) → (w.setCells b o vs).heap[b]? = some (.cells (wr cur o vs) e (0, 0))
 | [], _, _, _, h => h
 | v :: vs, cur, o, w, h => by
  rw [World.setCells, wr]
  exact setCells_heap vs _ _ _ (heap_setCell_same w b o cur e v h)
theorem setCells_grown (b : Nat) : ∀ (vs : List Value) (o : Nat) (w : World), w.grownBy (w.setCells b o vs) (some b)
 | [], _, w => World.grownBy.refl w _
 | v :: vs, o, w => by
  have h1 : w.grownBy (w.setCell ⟨b, o, none⟩ v) (some b) := ⟨rfl, rfl, rfl, by simp [World.setCell], fun k _ hk => heap_setCell_other w ⟨b, o, none⟩ k v (fun e => hk (by rw [e]))⟩
  have h2 := setCells_grown b vs (o + 1) (w.setCell ⟨b, o, none⟩ v)
  exact ⟨h2.os.trans h1.os, h2.tape.trans h1.tape, h2.output.trans h1.output, Nat.le_trans h1.size h2.size, fun k hk hne => (h2.block k (Nat.lt_of_lt_of_le hk h1.size) hne).trans (h1.block k hk hne)⟩
theorem grown_trans {a b c : World} {row : Option Nat} (h1 : a.grownBy b row) (h2 : b.grownBy c row) : a.grownBy c row :=
 ⟨h2.os.trans h1.os, h2.tape.trans h1.tape, h2.output.trans h1.output, Nat.le_trans h1.size h2.size, fun k hk hne => (h2.block k (Nat.lt_of_lt_of_le hk h1.size) hne).trans (h1.block k hk hne)⟩
theorem grown_drewN {a b : World} {row : Option Nat} (h1 : a.grownBy b row) (q : Nat) : a.grownBy (b.drewN q) row := ⟨h1.os, h1.tape, h1.output, h1.size, h1.block⟩
section
variable {w : World} {base k g n cap : Nat} {e : TypeId} {xs : List Value}
theorem own_cur (h : w.ownsRow base e k (.slice (some ⟨g, 0, none⟩) n cap) n xs) : ∃ cur, w.heap[g]? = some (.cells cur e (0, 0)) ∧ base ≤ g ∧ n ≤ cap ∧ cap ≤ maxLen ∧ cur.size = cap * k ∧ cur.toList.take (n * k) = xs := by
 rcases h.2 with ⟨h', _⟩ | ⟨g', cap', cur, h', hb, hg, hnc, hcm, hcs, htake⟩
 ·simp at h'
 ·simp only [Value.slice.injEq, Option.some.injEq, Addr.mk.injEq, and_true, true_and] at h'
  obtain ⟨rfl, rfl⟩ := h'
  exact ⟨cur, hg, hb, hnc, hcm, hcs, htake⟩
theorem own_write (h : w.ownsRow base e k (.slice (some ⟨g, 0, none⟩) n cap) n xs) (o : Nat) (vs : List Value) (ho : o + vs.length ≤ cap * k) (n' : Nat) (hn' : n' ≤ cap) (ys : List Value) (hy : ys.length = n' * k)
  (hys : ∀ p, p < n' * k → ys[p]? = if o ≤ p ∧ p < o + vs.length then vs[p - o]? else xs[p]?) (hlow : ∀ p, p < n' * k → ¬ (o ≤ p ∧ p < o + vs.length) → p < n * k) :
  (w.setCells g o vs).ownsRow base e k (.slice (some ⟨g, 0, none⟩) n' cap) n' ys := by
 obtain ⟨cur, hg, hb, hnc, hcm, hcs, htake⟩ := own_cur h
 refine ⟨hy, .inr ⟨g, cap, wr cur o vs, rfl, hb, setCells_heap vs cur o w hg, hn', hcm, by rw [wr_size, hcs], ?_⟩⟩
 have hle : n' * k ≤ cap * k := Nat.mul_le_mul_right k hn'
 apply List.ext_getElem?
 intro p
 rw [List.getElem?_take]
 by_cases hp : p < n' * k
 ·rw [if_pos hp, hys p hp, Array.getElem?_toList, wr_get vs cur o p (by omega)]
  split
  ·rfl
  ·rename_i hno
   rw [← htake, List.getElem?_take, if_pos (hlow p hp hno), Array.getElem?_toList]
 ·rw [if_neg hp, List.getElem?_eq_none (by omega)]
theorem own_some (h : w.ownsRow base e k (.slice (some ⟨g, 0, none⟩) n cap) n xs) (p : Nat) (hp : p < cap * k) : (w.cell? ⟨g, p, none⟩).isSome = true ∧ w.frozen? ⟨g, p, none⟩ = false := by
 obtain ⟨cur, hg, _, _, _, hcs, _⟩ := own_cur h
 refine ⟨?_, frozen_of_row w g p cur e hg⟩
 rw [cell_of_row w g p cur e (0, 0) hg, Array.getElem?_eq_getElem (by omega)]
 rfl
theorem own_drewN (h : w.ownsRow base e k (.slice (some ⟨g, 0, none⟩) n cap) n xs) (q : Nat) : (w.drewN q).ownsRow base e k (.slice (some ⟨g, 0, none⟩) n cap) n xs := h
theorem wp_append_splice {P : Program} {o : Oper} {a : Act} {K : Act → World → Prop} {Q : Exit → Act → World → Prop} (s x : Operand) (t : TypeId)
  (ho : o.op = .call { callee := .builtin .append, args := #[s, x], argTypes := #[t, t] }) (i0 : TypeInfo) (ht : P.underlying t = some (.slice e)) (hi : P.info? e = some i0) (hsize : i0.size = k)
  (h : w.ownsRow base e k (.slice (some ⟨g, 0, none⟩) n cap) n xs) (h1 : ∀ u ∈ xs, u.oneCell' = true) (i j m c' : Nat) (hij : i ≤ j) (hjm : j + m = n) (ad : Addr) (had : 0 < m → ad = ⟨g, j * k, none⟩)
  (hs : a.eval s = .slice (some ⟨g, 0, none⟩) i cap) (hx : a.eval x = .slice (some ad) m c')
  (hK : ∀ w', w'.ownsRow base e k (.slice (some ⟨g, 0, none⟩) (i + m) cap) (i + m) (xs.take (i * k) ++ xs.drop (j * k)) → w.grownBy w' (some g) → K (a.put o.dst (.slice (some ⟨g, 0, none⟩) (i + m) cap)) w') : o.wp P a w K Q := by
 obtain ⟨cur, hg, hb, hnc, hcm, hcs, htake⟩ := own_cur h
 have hxl : xs.length = n * k := h.1
 have hnk : n * k ≤ cap * k := Nat.mul_le_mul_right k hnc
 have hjk : j * k + m * k = n * k := by rw [← Nat.add_mul, hjm]
 have hik : i * k ≤ j * k := Nat.mul_le_mul_right k hij
 have hlen : (xs.drop (j * k)).length = m * k := by rw [List.length_drop, hxl]; omega
 have hnews : ∀ q u, (xs.drop (j * k))[q]? = some u → w.cell? (ad.add q) = some u := by
  intro q u hu
  have hq : q < m * k := by
   rw [← hlen]
   exact (List.getElem?_eq_some_iff.1 hu).1
  have hm : 0 < m := by
   rcases Nat.eq_zero_or_pos m with h0 | h0
   ·subst h0; simp at hq
   ·exact h0
  rw [had hm, Addr.add_mid, cell_of_row w g _ cur e (0, 0) hg, ← Array.getElem?_toList]
  rw [List.getElem?_drop, ← htake, List.getElem?_take, if_pos (by omega)] at hu
  exact hu
 have hsrc : Src P i0.size t (.slice (some ad) m c') m (xs.drop (j * k)) w := Src.ofSlice w ht ad m c' _ (by rw [hsize]; exact hlen) hnews (fun u hu => h1 u (List.mem_of_mem_drop hu))
 have hrun := run_append_room_src (P := P) w t t o.type e i0 ht hi g 0 i cap (.slice (some ad) m c') m (xs.drop (j * k)) hsrc (by omega)
  (fun q hq => by rw [hsize, Nat.zero_add]; exact (own_some h _ (by omega)).1) (fun q hq => by rw [hsize, Nat.zero_add]; exact (own_some h (i * k + q) (by omega)).2)
 rw [hsize, Nat.zero_add] at hrun
 unfold Oper.wp execOp
 simp only [ho, resolve, invoke, builtin, Sem.run_bind, Sem.run_pure, Result.andThen_ok, List.map_toArray, List.map_cons, List.map_nil, hs, hx, hrun]
 refine hK _ (own_write h (i * k) _ (by omega) (i + m) (by omega) _ (by rw [List.length_append, List.length_take, hlen, Nat.add_mul]; omega) (fun p hp => ?_) (fun p hp hno => ?_)) (setCells_grown _ _ _ _)
 ·rw [Nat.add_mul] at hp
  by_cases hpi : p < i * k
  ·rw [List.getElem?_append_left (by rw [List.length_take]; omega), List.getElem?_take, if_pos hpi, if_neg (by omega)]
  ·rw [List.getElem?_append_right (by rw [List.length_take]; omega), if_pos (by omega), List.length_take, Nat.min_eq_left (by omega)]
 ·rw [Nat.add_mul] at hp
  omega
theorem wp_clear_tail {P : Program} {o : Oper} {a : Act} {K : Act → World → Prop} {Q : Exit → Act → World → Prop} (x : Operand) (t : TypeId)
  (ho : o.op = .call { callee := .builtin .clear, args := #[x], argTypes := #[t] }) (i0 : TypeInfo) (z : Value) (ht : P.underlying t = some (.slice e)) (hi : P.info? e = some i0) (hz : i0.zero = some z) (hzs : z.cells.size = k) (hz1 : z.cells.all (·.oneCell') = true)
  (h : w.ownsRow base e k (.slice (some ⟨g, 0, none⟩) n cap) n xs) (m c' : Nat) (hm : n + m ≤ cap) (ad : Addr) (had : 0 < m → ad = ⟨g, n * k, none⟩) (hx : a.eval x = .slice (some ad) m c')
  (hK : ∀ w', w'.ownsRow base e k (.slice (some ⟨g, 0, none⟩) n cap) n xs → w.grownBy w' (some g) → K (a.put o.dst (.tuple #[])) w') : o.wp P a w K Q := by
 have hzc : (Builtin.zeroCells z.cells m).size = m * k := by simp [Builtin.zeroCells, hzs]
 rcases Nat.eq_zero_or_pos m with h0 | h0
 ·subst h0
  unfold Oper.wp execOp
  simp only [ho, resolve, invoke, builtin, Sem.run_bind, Sem.run_pure, Result.andThen_ok, List.map_toArray, List.map_cons, List.map_nil, hx]
  have hrun : (Builtin.clear_ #[t] o.type #[.slice (some ad) 0 c']).run P w = .ok (.tuple #[]) w := by
   simp [Builtin.clear_, run_underlying ht]
  simp only [hrun, Result.andThen_ok]
  exact hK w h (World.grownBy.refl w _)
 ·have hadd := had h0
  subst hadd
  have hmk : n * k + m * k ≤ cap * k := by rw [← Nat.add_mul]; exact Nat.mul_le_mul_right k hm
  have hst := run_storeCells_cells (P := P) g (n * k) (Builtin.zeroCells z.cells m).toList 0 w (fun q hq => by rw [Nat.add_zero]; exact (own_some h _ (by simp [hzc] at hq; omega)).1)
   (fun q hq => by rw [Nat.add_zero]; exact (own_some h _ (by simp [hzc] at hq; omega)).2) (fun u hu => by
    simp only [Builtin.zeroCells, Array.toList_map, List.mem_map] at hu
    obtain ⟨q, hq, rfl⟩ := hu
    have hk0 : 0 < z.cells.size := by
     rcases Nat.eq_zero_or_pos z.cells.size with h' | h'
     ·simp [h'] at hq
     ·exact h'
    have hlt := Nat.mod_lt q hk0
    rw [getElem!_pos z.cells _ hlt]
    exact Array.all_eq_true_iff_forall_mem.1 hz1 _ (by simp))
  rw [Nat.add_zero] at hst
  have hrun : (Builtin.clear_ #[t] o.type #[.slice (some ⟨g, n * k, none⟩) m c']).run P w = .ok (.tuple #[]) (w.setCells g (n * k) (Builtin.zeroCells z.cells m).toList) := by
   have hmne : m ≠ 0 := by omega
   simp [Builtin.clear_, run_underlying ht, zeroValue, typeInfo, hi, hz, hst, hmne]
  unfold Oper.wp execOp
  simp only [ho, resolve, invoke, builtin, Sem.run_bind, Sem.run_pure, Result.andThen_ok, List.map_toArray, List.map_cons, List.map_nil, hx, hrun]
  refine hK _ (own_write h (n * k) _ (by simp [hzc]; omega) n (by omega) xs h.1 (fun p hp => ?_) (fun p hp _ => hp)) (setCells_grown _ _ _ _)
  rw [if_neg (by omega)]
theorem wpList_clear_tail {P : Program} {ops : Array Oper} {rest : List Oper} {o : Oper} {a : Act} {Q : Exit → Act → World → Prop} (hgd : o.guard = none) (x : Operand) (t : TypeId)
  (ho : o.op = .call { callee := .builtin .clear, args := #[x], argTypes := #[t] }) (i0 : TypeInfo) (z : Value) (ht : P.underlying t = some (.slice e)) (hi : P.info? e = some i0) (hz : i0.zero = some z) (hzs : z.cells.size = k) (hz1 : z.cells.all (·.oneCell') = true)
  (h : w.ownsRow base e k (.slice (some ⟨g, 0, none⟩) n cap) n xs) (m c' : Nat) (hm : n + m ≤ cap) (ad : Addr) (had : 0 < m → ad = ⟨g, n * k, none⟩) (hx : a.eval x = .slice (some ad) m c')
  (hK : ∀ w', w'.ownsRow base e k (.slice (some ⟨g, 0, none⟩) n cap) n xs → w.grownBy w' (some g) → wpList P ops Q rest (a.put o.dst (.tuple #[])) w') : wpList P ops Q (o :: rest) a w :=
 wpList_plain hgd fun _ hk => wp_clear_tail x t ho i0 z ht hi hz hzs hz1 h m c' hm ad had hx fun w' h1 h2 => hk _ _ (hK w' h1 h2)
end
def Two (A B : World → Prop) : Nat → World → Prop
 | 0 => A
 | _ => B
end
end Go.Proofs.YtaebebpldkciiaaGreatDoor
