/- Packages polygon and volume: Locate, Has; the rule closed. -/
import Derived.Test.YtdmecagdjbjgjaaR29
import Derived.Test.YtdmecagdjbjgjaaR14
namespace Go.Proofs.Ytdmecagdjbjgjaa
open Go.RowKit Go.Shelf Go.Proofs

theorem polyE_ok {F : Nat → Int × Int} {n : Nat} (h : polyE F n = 0) : n ≤ 16 ∧ ∀ i, i < n → PtOk (F i) := by
  unfold polyE at h
  split at h
  · cases h
  split at h
  · cases h
  split at h
  · rename_i h3; exact absurd h h3
  rename_i h1 h2 h3
  exact ⟨by omega, ptsE_ok n (by simpa using h3)⟩
theorem volE_poly {F : Nat → Int × Int} {n : Nat} {lo hi : Int} (h : volE F n lo hi = 0) : polyE F n = 0 := by
  unfold volE at h
  split at h
  · rename_i h1; exact absurd h h1
  · rename_i h1; simpa using h1

set_option maxRecDepth 100000 in
set_option maxHeartbeats 4000000 in
theorem Locate_any (A : Option Addr) (n c : Nat) (F : Nat → Int × Int) (q : Int × Int) (w : World) (hS : Sl w w.heap.size 2 A n (ptRow F)) (hv : polyE F n = 0) (hq : PtOk q) :
    Calls Try.prog 65 #[.slice A n c, .agg #[.int .i64 q.1, .int .i64 q.2]] w fun E w' => E = .returned (.tuple #[.int .i64 (plS F n q n), .int .i64 0]) ∧ Below w.heap.size w w' := by
  obtain ⟨w1, hw1⟩ : ∃ W, w.alloc (.cells #[.int .i64 q.1, .int .i64 q.2] 39) = W := ⟨_, rfl⟩
  have hb1 : Below w.heap.size w w1 := by rw [← hw1]; exact (Below.refl _ _).alloc (Nat.le_refl _) _
  have hy1 : w1.heap[w.heap.size]? = some (.cells #[.int .i64 q.1, .int .i64 q.2] 39 (0, 0)) := by rw [← hw1]; exact heap_alloc_new _ _
  have hl1 : w.heap.size < w1.heap.size := by rw [← hw1]; simp
  have HP := Lib.hid (fun W (h : Below w.heap.size w W) => polyCheck_any A n c F W ((hS.below h).more h.size))
  rw [hv] at HP
  have HC := Lib.hid (fun W => PCheck_any q.1 q.2 W)
  have hq' := hq
  unfold PtOk Bd at hq'
  rw [show ptE q.1 q.2 = 0 from if_pos (by omega)] at HC
  have HL := Lib.hid (fun W (h : Below w.heap.size w W) => Place_any A n c F q W ((hS.below h).more h.size) (polyE_ok hv).1 (polyE_ok hv).2 hq)
  have HB1 := Lib.hid hb1
  generalize plS F n q n = r at *
  clear hS hb1 hq hq' hv
  obtain ⟨q1, q2⟩ := q
  dsimp only at *
  obtain ⟨g, hg⟩ : ∃ g, w.heap.size = g := ⟨_, rfl⟩
  have HG := Lib.hid hg
  rw [hg] at hy1 hl1
  have c0 : w1.cell? ⟨g, 0, none⟩ = some (.int .i64 q1) := cell_of_row w1 _ 0 _ 39 (0, 0) hy1
  have c1 : w1.cell? ⟨g, 1, none⟩ = some (.int .i64 q2) := cell_of_row w1 _ 1 _ 39 (0, 0) hy1
  clear hy1
  go_enter Try.func65, Try.ntmps65
  go_wp2_with (first
    | (go_at_call 43; go_loud (refine (HP.out _ HB1.out).mono ?_; rintro E w2 ⟨rfl, hb2⟩; have d0 := (hb2.cell (p := ⟨g, 0, none⟩) hl1).trans c0; have d1 := (hb2.cell (p := ⟨g, 1, none⟩) hl1).trans c1; have hl2 : g < w2.heap.size := Nat.lt_of_lt_of_le hl1 hb2.size; have HB2 := Lib.hid (HB1.out.trans (hb2.mono HB1.out.size)); clear hb2))
    | (go_at_call 23; go_loud (refine (HC.out _).mono ?_; rintro E w3 ⟨rfl, hb3⟩; have e0 := (hb3.cell (p := ⟨g, 0, none⟩) hl2).trans d0; have e1 := (hb3.cell (p := ⟨g, 1, none⟩) hl2).trans d1; have HB3 := Lib.hid (HB2.out.trans (hb3.mono HB2.out.size)); clear hb3))
    | (go_at_call 81; go_loud (refine (HL.out _ HB3.out).mono ?_; rintro E w4 ⟨rfl, hb4⟩; have HB4 := Lib.hid (HB3.out.trans (hb4.mono HB3.out.size)); clear hb4)))
  go_ret2
  exact ⟨rfl, by first | exact HB4.out | (rw [← HG.out]; exact HB4.out)⟩

def hasB (v : Vo) (q : Int × Int) (h : Int) : Bool := decide (0 ≤ plS v.F v.n q v.n) && decide (v.lo ≤ h) && decide (h < v.hi)
set_option maxRecDepth 100000 in
set_option maxHeartbeats 8000000 in
theorem Has_any (v : Vo) (q : Int × Int) (h : Int) (w : World) (hS : Sl w w.heap.size 2 v.A v.n (ptRow v.F)) (hv : volE v.F v.n v.lo v.hi = 0) (hq : PtOk q) (hh : 0 ≤ h ∧ h ≤ 60000) :
    Calls Try.prog 51 #[.agg #[.slice v.A v.n v.c, .int .i64 v.lo, .int .i64 v.hi], .agg #[.int .i64 q.1, .int .i64 q.2], .int .i64 h] w fun E w' => E = .returned (.tuple #[.bool (hasB v q h), .int .i64 0]) ∧ Below w.heap.size w w' := by
  have HR : Hid (hasB v q h = (decide (0 ≤ plS v.F v.n q v.n) && decide (v.lo ≤ h) && decide (h < v.hi))) := Lib.hid rfl
  generalize hasB v q h = r at *
  obtain ⟨A, n, c, F, lo, hi⟩ := v
  dsimp only at *
  have HV := Lib.hid (fun W (h : Below w.heap.size w W) => volCheck_any A n c F lo hi W ((hS.below h).more h.size))
  rw [hv] at HV
  have HC := Lib.hid (fun W => PCheck_any q.1 q.2 W)
  have hq' := hq
  unfold PtOk Bd at hq'
  rw [show ptE q.1 q.2 = 0 from if_pos (by omega)] at HC
  have HL := Lib.hid (fun W (h : Below w.heap.size w W) => Locate_any A n c F q W ((hS.below h).more h.size) (volE_poly hv) hq)
  generalize plS F n q n = p at *
  obtain ⟨q1, q2⟩ := q
  dsimp only at *
  clear hS hv hq hq'
  obtain ⟨w1, hw1⟩ : ∃ W, w.alloc (.cells #[.slice A n c, .int .i64 lo, .int .i64 hi] 79) = W := ⟨_, rfl⟩
  obtain ⟨w2, hw2⟩ : ∃ W, w1.alloc (.cells #[.int .i64 q1, .int .i64 q2] 39) = W := ⟨_, rfl⟩
  have hb1 : Below w.heap.size w w1 := by rw [← hw1]; exact (Below.refl _ _).alloc (Nat.le_refl _) _
  have hb2 : Below w1.heap.size w1 w2 := by rw [← hw2]; exact (Below.refl _ _).alloc (Nat.le_refl _) _
  have hs1 : w1.heap.size = w.heap.size + 1 := by rw [← hw1]; simp
  have hs2 : w2.heap.size = w.heap.size + 1 + 1 := by rw [← hw2]; simp [hs1]
  have hb12 := hb1.trans (hb2.mono hb1.size)
  have hyg : w2.heap[w.heap.size]? = some (.cells #[.slice A n c, .int .i64 lo, .int .i64 hi] 79 (0, 0)) := (hb2.block w.heap.size (by omega)).trans (by rw [← hw1]; exact heap_alloc_new _ _)
  have hyc : w2.heap[w1.heap.size]? = some (.cells #[.int .i64 q1, .int .i64 q2] 39 (0, 0)) := by rw [← hw2]; exact heap_alloc_new _ _
  have hl0 : w.heap.size < w2.heap.size := by omega
  have hl1 : w1.heap.size < w2.heap.size := by omega
  obtain ⟨g, hg⟩ : ∃ g, w.heap.size = g := ⟨_, rfl⟩
  obtain ⟨k, hk⟩ : ∃ k, w1.heap.size = k := ⟨_, rfl⟩
  rw [hg] at hyg hl0
  rw [hk] at hyc hl1
  have HG := Lib.hid hg
  have HB2 := Lib.hid hb12
  have HY := Lib.hid hyg
  have HK := Lib.hid hyc
  have a0 : w2.cell? ⟨g, 0, none⟩ = some (.slice A n c) := cell_of_row w2 _ 0 _ 79 (0, 0) hyg
  have a1 : w2.cell? ⟨g, 1, none⟩ = some (.int .i64 lo) := cell_of_row w2 _ 1 _ 79 (0, 0) hyg
  have a2 : w2.cell? ⟨g, 2, none⟩ = some (.int .i64 hi) := cell_of_row w2 _ 2 _ 79 (0, 0) hyg
  clear hb1 hb2 hs1 hs2 hb12 hyg hyc
  have t1 : decide (h < 0) = false := decide_eq_false (by omega)
  have t2 : decide ((60000 : Int) < h) = false := decide_eq_false (by omega)
  have go : ∀ (z1 z2 z3 : Bool), decide (0 ≤ p) = z1 → decide (lo ≤ h) = z2 → decide (h < hi) = z3 → Calls Try.prog 51 #[.agg #[.slice A n c, .int .i64 lo, .int .i64 hi], .agg #[.int .i64 q1, .int .i64 q2], .int .i64 h] w fun E w' => E = .returned (.tuple #[.bool r, .int .i64 0]) ∧ Below w.heap.size w w' := by
    intro z1 z2 z3 h1 h2 h3
    rw [h1, h2, h3] at HR
    cases z1 <;> cases z2 <;> cases z3
    all_goals
      go_enter Try.func51, Try.ntmps51
      go_wp2_with (first
        | (go_at_call 26; go_loud (refine (HV.out _ HB2.out).mono ?_; rintro E w3 ⟨rfl, hb3⟩; have HB3 := Lib.hid hb3; have e0 := (hb3.block k hl1).trans HK.out; have b0 := cell_of_row w3 _ 0 _ 39 (0, 0) e0; have b1 := cell_of_row w3 _ 1 _ 39 (0, 0) e0; simp only [List.getElem?_toArray, List.getElem?_cons_zero, List.getElem?_cons_succ] at b0 b1; have hz3 := hb3.size; clear hb3 e0))
        | (go_at_call 23; go_loud (refine (HC.out _).mono ?_; rintro E w4 ⟨rfl, hb4⟩; have HB4 := Lib.hid (HB3.out.trans (hb4.mono hz3)); have e0 := (HB4.out.block k hl1).trans HK.out; have y0 := (HB4.out.block g hl0).trans HY.out; have d0 := cell_of_row w4 _ 0 _ 39 (0, 0) e0; have d1 := cell_of_row w4 _ 1 _ 39 (0, 0) e0; have f0 := cell_of_row w4 _ 0 _ 79 (0, 0) y0; simp only [List.getElem?_toArray, List.getElem?_cons_zero, List.getElem?_cons_succ] at d0 d1 f0; have hz4 := HB4.out.size; clear hb4 e0 y0))
        | (go_at_call 65; go_loud (refine (HL.out _ (HB2.out.trans (HB4.out.mono HB2.out.size))).mono ?_; rintro E w5 ⟨rfl, hb5⟩; have HB5 := Lib.hid (HB4.out.trans (hb5.mono hz4)); have y0 := (HB5.out.block g hl0).trans HY.out; have f1 := cell_of_row w5 _ 1 _ 79 (0, 0) y0; have f2 := cell_of_row w5 _ 2 _ 79 (0, 0) y0; simp only [List.getElem?_toArray, List.getElem?_cons_zero, List.getElem?_cons_succ] at f1 f2; have HB6 := Lib.hid (HB2.out.trans (HB5.out.mono HB2.out.size)); clear hb5 y0)))
      go_ret2
      exact ⟨by rw [HR.out]; rfl, by first | exact HB6.out | (rw [← HG.out]; exact HB6.out)⟩
  exact go _ _ _ rfl rfl rfl
end Go.Proofs.Ytdmecagdjbjgjaa
