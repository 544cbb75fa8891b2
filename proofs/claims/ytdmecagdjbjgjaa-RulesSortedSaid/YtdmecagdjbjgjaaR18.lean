/- The order of alerts. -/
import Derived.Test.YtdmecagdjbjgjaaR16
import Derived.Test.YtdmecagdjbjgjaaStr
import Derived.Test.YtdmecagdjbjgjaaStill
import Derived.Handy
import Derived.Sort.Grow
namespace Go.Proofs.Ytdmecagdjbjgjaa
open Go.RowKit Go.Sort

theorem isNaNI_any (x : Int) (w : World) : Calls Try.prog 56 #[.int .i64 x] w fun e w' => e = .returned (.bool false) ∧ w = w' := by
  go_enter Try.func56, Try.ntmps56
  go_wp2
  go_ret
  exact ⟨rfl, rfl⟩

def cmpI (x y : Int) : Int := if x < y then -1 else if y < x then 1 else 0
set_option maxHeartbeats 1000000 in
theorem CompareI_any (x y : Int) (w : World) : Calls Try.prog 36 #[.int .i64 x, .int .i64 y] w fun e w' => e = .returned (.int .i64 (cmpI x y)) ∧ w = w' := by
  by_cases h1 : x < y
  · have HR := Lib.hid (show cmpI x y = -1 by unfold cmpI; rw [if_pos h1])
    go_enter Try.func36, Try.ntmps36
    go_wp2_with (go_at_call 56; refine (isNaNI_any _ _).mono ?_; rintro e w' ⟨rfl, rfl⟩)
    go_ret
    exact ⟨by rw [HR.out]; rfl, rfl⟩
  · by_cases h2 : y < x
    · have HR := Lib.hid (show cmpI x y = 1 by unfold cmpI; rw [if_neg h1, if_pos h2])
      go_enter Try.func36, Try.ntmps36
      go_wp2_with (go_at_call 56; refine (isNaNI_any _ _).mono ?_; rintro e w' ⟨rfl, rfl⟩)
      go_ret
      exact ⟨by rw [HR.out]; rfl, rfl⟩
    · have HR := Lib.hid (show cmpI x y = 0 by unfold cmpI; rw [if_neg h1, if_neg h2])
      go_enter Try.func36, Try.ntmps36
      go_wp2_with (go_at_call 56; refine (isNaNI_any _ _).mono ?_; rintro e w' ⟨rfl, rfl⟩)
      go_ret
      exact ⟨by rw [HR.out]; rfl, rfl⟩

def orI (x y : Int) : Int := if x ≠ 0 then x else y
theorem orI_lt {a b : Int} : orI a b < 0 ↔ a < 0 ∨ (a = 0 ∧ b < 0) := by
  unfold orI
  by_cases h : a = 0
  · rw [if_neg (by omega)]; omega
  · rw [if_pos h]; omega
theorem orI_z (y : Int) : orI 0 y = y := if_neg (by decide)
theorem orI_n {x : Int} (y : Int) (h : x ≠ 0) : orI x y = x := if_pos h

set_option maxHeartbeats 4000000 in
theorem Or_any (b : Nat) (x y z u : Int) (w : World) (h0 : w.cell? ⟨b, 0, none⟩ = some (.int .i64 x)) (h1 : w.cell? ⟨b, 1, none⟩ = some (.int .i64 y)) (h2 : w.cell? ⟨b, 2, none⟩ = some (.int .i64 z)) (h3 : w.cell? ⟨b, 3, none⟩ = some (.int .i64 u)) :
    Calls Try.prog 35 #[.slice (some ⟨b, 0, none⟩) 4 4] w fun e w' => e = .returned (.int .i64 (orI x (orI y (orI z u)))) ∧ w = w' := by
  by_cases hx : x = 0
  · have hx' : (x != 0) = false := by simp [hx]
    by_cases hy : y = 0
    · have hy' : (y != 0) = false := by simp [hy]
      by_cases hz : z = 0
      · have hz' : (z != 0) = false := by simp [hz]
        have HR : Hid (orI x (orI y (orI z u)) = u) := Lib.hid (by rw [hx, hy, hz, orI_z, orI_z, orI_z])
        by_cases hu : u = 0
        · have hu' : (u != 0) = false := by simp [hu]
          have HR : Hid (orI x (orI y (orI z u)) = 0) := Lib.hid (by rw [HR.out, hu])
          clear hx hy hz hu
          go_enter Try.func35, Try.ntmps35
          go_wp2
          go_rounds 5
          all_goals (go_ret; exact ⟨by rw [HR.out]; rfl, rfl⟩)
        · have hu' : (u != 0) = true := by simp [hu]
          clear hx hy hz hu
          go_enter Try.func35, Try.ntmps35
          go_wp2
          go_rounds 5
          all_goals (go_ret; exact ⟨by rw [HR.out]; rfl, rfl⟩)
      · have hz' : (z != 0) = true := by simp [hz]
        have HR : Hid (orI x (orI y (orI z u)) = z) := Lib.hid (by rw [hx, hy, orI_z, orI_z, orI_n _ hz])
        clear hx hy hz
        go_enter Try.func35, Try.ntmps35
        go_wp2
        go_rounds 5
        all_goals (go_ret; exact ⟨by rw [HR.out]; rfl, rfl⟩)
    · have hy' : (y != 0) = true := by simp [hy]
      have HR : Hid (orI x (orI y (orI z u)) = y) := Lib.hid (by rw [hx, orI_z, orI_n _ hy])
      clear hx hy
      go_enter Try.func35, Try.ntmps35
      go_wp2
      go_rounds 5
      all_goals (go_ret; exact ⟨by rw [HR.out]; rfl, rfl⟩)
  · have hx' : (x != 0) = true := by simp [hx]
    have HR : Hid (orI x (orI y (orI z u)) = x) := Lib.hid (by rw [orI_n _ hx])
    clear hx
    go_enter Try.func35, Try.ntmps35
    go_wp2
    go_rounds 5
    all_goals (go_ret; exact ⟨by rw [HR.out]; rfl, rfl⟩)

theorem alL_len (x : Al) : (alL x).length = 4 := rfl
theorem alL_one (x : Al) : ∀ u ∈ alL x, u.oneCell' = true := fun u hu => by
  simp only [alL, List.mem_cons, List.not_mem_nil, or_false] at hu
  rcases hu with rfl | rfl | rfl | rfl <;> rfl
def cfA (x y : Al) : Int := orI (cmpI y.l x.l) (orI (cmpI x.a y.a) (orI (cmpI x.b y.b) (cmpS x.r y.r)))
theorem cmpI_lt {x y : Int} : cmpI x y < 0 ↔ x < y := by
  unfold cmpI
  by_cases h : x < y
  · rw [if_pos h]; omega
  · rw [if_neg h]
    by_cases h2 : y < x
    · rw [if_pos h2]; omega
    · rw [if_neg h2]; omega
theorem cmpI_eq {x y : Int} : cmpI x y = 0 ↔ x = y := by
  unfold cmpI
  by_cases h : x < y
  · rw [if_pos h]; omega
  · rw [if_neg h]
    by_cases h2 : y < x
    · rw [if_pos h2]; omega
    · rw [if_neg h2]; omega
theorem cfA_lt {x y : Al} : cfA x y < 0 ↔ y.l < x.l ∨ (x.l = y.l ∧ (x.a < y.a ∨ (x.a = y.a ∧ (x.b < y.b ∨ (x.b = y.b ∧ lsS x.r y.r = true))))) := by
  unfold cfA
  rw [orI_lt, orI_lt, orI_lt, cmpI_lt, cmpI_lt, cmpI_lt, cmpI_eq, cmpI_eq, cmpI_eq, cmpS_lt]
  constructor
  · rintro (h | ⟨h1, h2⟩)
    · exact .inl h
    · exact .inr ⟨h1.symm, h2⟩
  · rintro (h | ⟨h1, h2⟩)
    · exact .inl h
    · exact .inr ⟨h1.symm, h2⟩

set_option maxRecDepth 100000 in
set_option maxHeartbeats 4000000 in
theorem less_one (x y : Al) (W : World) : Calls Try.prog 34 #[.agg (alL x).toArray, .agg (alL y).toArray] W fun e w' => e = .returned (.int .i64 (cfA x y)) ∧ ∃ q os', w' = grow (W.drewN q) os' := by
  have HC : Hid (cfA x y = orI (cmpI y.l x.l) (orI (cmpI x.a y.a) (orI (cmpI x.b y.b) (cmpS x.r y.r)))) := Lib.hid rfl
  generalize cfA x y = r at *
  obtain ⟨x1, x2, x3, x4⟩ := x
  obtain ⟨y1, y2, y3, y4⟩ := y
  dsimp only at HC
  have HC1 := Lib.hid (fun W => CompareI_any y2 x2 W)
  have HC2 := Lib.hid (fun W => CompareI_any x3 y3 W)
  have HC3 := Lib.hid (fun W => CompareI_any x4 y4 W)
  have HC4 := Lib.hid (fun W => Compare_any x1 y1 W)
  generalize cmpI y2 x2 = m1 at *
  generalize cmpI x3 y3 = m2 at *
  generalize cmpI x4 y4 = m3 at *
  generalize cmpS x1 y1 = m4 at *
  show Calls Try.prog 34 #[.agg #[.string x1, .int .i64 x2, .int .i64 x3, .int .i64 x4], .agg #[.string y1, .int .i64 y2, .int .i64 y3, .int .i64 y4]] W fun e w' => e = .returned (.int .i64 r) ∧ _
  obtain ⟨W0, hW0, g0, g1, HW⟩ : ∃ W0, (W.alloc (.cells #[.string x1, .int .i64 x2, .int .i64 x3, .int .i64 x4] 51)).alloc (.cells #[.string y1, .int .i64 y2, .int .i64 y3, .int .i64 y4] 51) = W0 ∧ W0.heap[W.heap.size]? = some (.cells #[.string x1, .int .i64 x2, .int .i64 x3, .int .i64 x4] 51 (0, 0)) ∧ W0.heap[W.heap.size + 1]? = some (.cells #[.string y1, .int .i64 y2, .int .i64 y3, .int .i64 y4] 51 (0, 0)) ∧ Hid (∃ os, W0 = grow W os) :=
    ⟨_, rfl, (Below.heap_alloc _ _ W.heap.size (by simp)).trans (heap_alloc_new W _), by have := heap_alloc_new (W.alloc (.cells #[.string x1, .int .i64 x2, .int .i64 x3, .int .i64 x4] 51)) (.cells #[.string y1, .int .i64 y2, .int .i64 y3, .int .i64 y4] 51); simpa using this, Lib.hid ⟨_, by rw [alloc_eq_grow, alloc_eq_grow, grow_grow]⟩⟩
  have a0 := cell_of_row W0 W.heap.size 0 _ 51 (0, 0) g0
  have a1 := cell_of_row W0 W.heap.size 1 _ 51 (0, 0) g0
  have a2 := cell_of_row W0 W.heap.size 2 _ 51 (0, 0) g0
  have a3 := cell_of_row W0 W.heap.size 3 _ 51 (0, 0) g0
  have b0 := cell_of_row W0 (W.heap.size + 1) 0 _ 51 (0, 0) g1
  have b1 := cell_of_row W0 (W.heap.size + 1) 1 _ 51 (0, 0) g1
  have b2 := cell_of_row W0 (W.heap.size + 1) 2 _ 51 (0, 0) g1
  have b3 := cell_of_row W0 (W.heap.size + 1) 3 _ 51 (0, 0) g1
  clear g0 g1
  go_enter Try.func34, Try.ntmps34
  go_wp2
  refine wp_region_still_tail 20 (by kernel_rfl) (by kernel_rfl) ?_
  simp only [List.take_succ_cons, List.take_zero, List.drop_succ_cons, List.drop_zero]
  still_step
  still_step
  still_step
  still_step
  still_call ((HC1.out _).mono fun _ _ h => ⟨h.1, h.2.symm⟩)
  still_step
  still_step
  still_step
  still_step
  still_call ((HC2.out _).mono fun _ _ h => ⟨h.1, h.2.symm⟩)
  still_step
  still_step
  still_step
  still_step
  still_call ((HC3.out _).mono fun _ _ h => ⟨h.1, h.2.symm⟩)
  still_step
  still_step
  still_step
  still_step
  still_call ((HC4.out _).mono fun _ _ h => ⟨h.1, h.2.symm⟩)
  refine wpStill_nil ?_
  change wpList _ _ _ _ _ W0.drew
  go_wp2_with (go_at_call 35; go_loud (refine (Or_any W0.heap.size m1 m2 m3 m4 _ (by simp) (by simp) (by simp) (by simp)).mono ?_; rintro e w' ⟨rfl, rfl⟩))
  go_ret
  obtain ⟨os, hos⟩ := HW.out
  refine ⟨by rw [HC.out]; rfl, 1, os ++ #[.cells #[.int .i64 m1, .int .i64 m2, .int .i64 m3, .int .i64 m4] 3], ?_⟩
  rw [alloc_eq_grow, hos, grow_grow]
  rfl

end Go.Proofs.Ytdmecagdjbjgjaa
