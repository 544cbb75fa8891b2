/- Package strip: the order of a bay. -/
import Derived.Test.YtadhkncilokdjaaDoorA2
import Derived.Handy
import Derived.Sort.Grow
import Derived.Test.YtadhkncilokdjaaDoorStill
namespace Go.Proofs.YtadhkncilokdjaaDoor
open Go.RowKit Go.Sort

def orI (x y : Int) : Int := if x ≠ 0 then x else y

set_option maxHeartbeats 1000000 in
theorem Or_any (b : Nat) (x y : Int) (w : World) (h0 : w.cell? ⟨b, 0, none⟩ = some (.int .i64 x)) (h1 : w.cell? ⟨b, 1, none⟩ = some (.int .i64 y)) :
    Calls Tryd.prog 24 #[.slice (some ⟨b, 0, none⟩) 2 2] w fun e w' => e = .returned (.int .i64 (orI x y)) ∧ w = w' := by
  by_cases hx : x = 0
  · have hx' : (x != 0) = false := by simp [hx]
    by_cases hy : y = 0
    · have hy' : (y != 0) = false := by simp [hy]
      have HR : Hid (orI x y = 0) := Lib.hid (by unfold orI; rw [if_neg (by omega), hy])
      clear hx hy
      go_enter Tryd.func24, Tryd.ntmps24
      go_wp2
      go_rounds 3
      all_goals (go_ret; exact ⟨by rw [HR.out]; rfl, rfl⟩)
    · have hy' : (y != 0) = true := by simp [hy]
      have HR : Hid (orI x y = y) := Lib.hid (by unfold orI; rw [if_neg (by omega)])
      clear hx hy
      go_enter Tryd.func24, Tryd.ntmps24
      go_wp2
      go_rounds 3
      all_goals (go_ret; exact ⟨by rw [HR.out]; rfl, rfl⟩)
  · have hx' : (x != 0) = true := by simp [hx]
    have HR : Hid (orI x y = x) := Lib.hid (by unfold orI; rw [if_pos hx])
    clear hx
    go_enter Tryd.func24, Tryd.ntmps24
    go_wp2
    go_rounds 3
    all_goals (go_ret; exact ⟨by rw [HR.out]; rfl, rfl⟩)

/-- A valid strip. -/
abbrev Va := {x : St // stE x = 0}
instance : Inhabited Va := ⟨⟨⟨⟨#[65]⟩, ⟨#[65]⟩, 0, 0, 0⟩, by decide⟩⟩
def vaV (x : Va) : List Value := stV x.1
theorem vaV_len (x : Va) : (vaV x).length = 5 := rfl
theorem vaV_one (x : Va) : ∀ u ∈ vaV x, u.oneCell' = true := stV_one x.1
theorem stE_zero {x : St} (h : stE x = 0) : nameB x.c = true ∧ nameB x.f = true ∧ 0 ≤ x.t ∧ x.t ≤ 200000 ∧ 0 ≤ x.h ∧ x.h ≤ 60000 ∧ 0 ≤ x.b ∧ x.b ≤ 3 := by
  unfold stE at h
  split at h
  · cases h
  · next h1 =>
    split at h
    · next h2 =>
      simp only [Bool.not_eq_false, Bool.and_eq_true] at h1
      exact ⟨h1.1, h1.2, h2⟩
    · cases h
def cfS (x y : Va) : Int := orI (x.1.t - y.1.t) (cmpS x.1.c y.1.c)
theorem orI_lt {a b : Int} : orI a b < 0 ↔ a < 0 ∨ (a = 0 ∧ b < 0) := by
  unfold orI
  by_cases h : a = 0
  · rw [if_neg (by omega)]; omega
  · rw [if_pos h]; omega
theorem cfS_lt {x y : Va} : cfS x y < 0 ↔ x.1.t < y.1.t ∨ (x.1.t = y.1.t ∧ lsS x.1.c y.1.c = true) := by
  unfold cfS
  rw [orI_lt, cmpS_lt]
  constructor
  · rintro (h | ⟨h1, h2⟩)
    · exact .inl (by omega)
    · exact .inr ⟨by omega, h2⟩
  · rintro (h | ⟨h1, h2⟩)
    · exact .inl (by omega)
    · exact .inr ⟨by omega, h2⟩

set_option maxRecDepth 100000 in
set_option maxHeartbeats 2000000 in
theorem less_one (x y : Va) (W : World) : Calls Tryd.prog 23 #[.agg (vaV x).toArray, .agg (vaV y).toArray] W fun e w' => e = .returned (.int .i64 (cfS x y)) ∧ ∃ q os', w' = grow (W.drewN q) os' := by
  have hx := stE_zero x.2
  have hy := stE_zero y.2
  have hw : IntKind.i64.wrap (x.1.t - y.1.t) = x.1.t - y.1.t := IntWalk.i64_in _ (by omega)
  have HC : Hid (cfS x y = orI (x.1.t - y.1.t) (cmpS x.1.c y.1.c)) := Lib.hid rfl
  generalize cfS x y = r at *
  obtain ⟨⟨x1, x2, x3, x4, x5⟩, hX⟩ := x
  obtain ⟨⟨y1, y2, y3, y4, y5⟩, hY⟩ := y
  dsimp only at hw HC
  have HCmp := Lib.hid (fun W => Compare_any x1 y1 W)
  generalize cmpS x1 y1 = cm at *
  show Calls Tryd.prog 23 #[.agg #[.string x1, .string x2, .int .i64 x3, .int .i64 x4, .int .i64 x5], .agg #[.string y1, .string y2, .int .i64 y3, .int .i64 y4, .int .i64 y5]] W fun e w' => e = .returned (.int .i64 r) ∧ _
  clear hX hY hx hy
  obtain ⟨W0, hW0, g0, g1, HW⟩ : ∃ W0, (W.alloc (.cells #[.string x1, .string x2, .int .i64 x3, .int .i64 x4, .int .i64 x5] 24)).alloc (.cells #[.string y1, .string y2, .int .i64 y3, .int .i64 y4, .int .i64 y5] 24) = W0 ∧ W0.heap[W.heap.size]? = some (.cells #[.string x1, .string x2, .int .i64 x3, .int .i64 x4, .int .i64 x5] 24 (0, 0)) ∧ W0.heap[W.heap.size + 1]? = some (.cells #[.string y1, .string y2, .int .i64 y3, .int .i64 y4, .int .i64 y5] 24 (0, 0)) ∧ Hid (∃ os, W0 = grow W os) :=
    ⟨_, rfl, (Below.heap_alloc _ _ W.heap.size (by simp)).trans (heap_alloc_new W _), by have := heap_alloc_new (W.alloc (.cells #[.string x1, .string x2, .int .i64 x3, .int .i64 x4, .int .i64 x5] 24)) (.cells #[.string y1, .string y2, .int .i64 y3, .int .i64 y4, .int .i64 y5] 24); simpa using this, Lib.hid ⟨_, by rw [alloc_eq_grow, alloc_eq_grow, grow_grow]⟩⟩
  have a0 := cell_of_row W0 W.heap.size 0 _ 24 (0, 0) g0
  have a2 := cell_of_row W0 W.heap.size 2 _ 24 (0, 0) g0
  have b0 := cell_of_row W0 (W.heap.size + 1) 0 _ 24 (0, 0) g1
  have b2 := cell_of_row W0 (W.heap.size + 1) 2 _ 24 (0, 0) g1
  clear g0 g1
  go_enter Tryd.func23, Tryd.ntmps23
  go_wp2
  refine wp_region_still_tail 10 (by kernel_rfl) (by kernel_rfl) ?_
  simp only [List.take_succ_cons, List.take_zero, List.drop_succ_cons, List.drop_zero]
  still_step
  still_step
  still_step
  still_step
  still_step
  still_step
  still_step
  still_step
  still_step
  still_call ((HCmp.out _).mono fun _ _ h => ⟨h.1, h.2.symm⟩)
  refine wpStill_nil ?_
  change wpList _ _ _ _ _ W0.drew
  go_wp2_with (go_at_call 24; go_loud (refine (Or_any W0.heap.size (x3 - y3) cm _ (by simp) (by simp)).mono ?_; rintro e w' ⟨rfl, rfl⟩))
  go_ret
  obtain ⟨os, hos⟩ := HW.out
  refine ⟨by rw [HC.out]; rfl, 1, os ++ #[.cells #[.int .i64 (x3 - y3), .int .i64 cm] 3], ?_⟩
  rw [alloc_eq_grow, hos, grow_grow]
  rfl
end Go.Proofs.YtadhkncilokdjaaDoor
