/- Package screen: Check, check and Picture of any view; slices.Equal of strings; the closures of ScreenShifted. -/
import Derived.Test.YtlkdjnmehnibmaaG3
import Derived.Test.YtlkdjnmehnibmaaMore
import Derived.Lib.MinMax
namespace Go.Proofs.Ytlkdjnmehnibmaa
open Go.RowKit

def ptE (x y : Int) : Int := if -1000000 ≤ x ∧ x ≤ 1000000 ∧ -1000000 ≤ y ∧ y ≤ 1000000 then 0 else 4
set_option maxRecDepth 100000 in
set_option maxHeartbeats 4000000 in
theorem PCheck_any (x y : Int) (w : World) : Calls Try.prog 22 #[.agg #[.int .i64 x, .int .i64 y]] w fun e w' => e = .returned (.int .i64 (ptE x y)) ∧ Below w.heap.size w w' := by
  have HE : Hid (ptE x y = if -1000000 ≤ x ∧ x ≤ 1000000 ∧ -1000000 ≤ y ∧ y ≤ 1000000 then 0 else 4) := Lib.hid rfl
  generalize ptE x y = r at *
  go_enter Try.func22, Try.ntmps22
  go_wp2
  all_goals
    go_ret
    refine ⟨?_, (Below.refl _ w).alloc (Nat.le_refl _) _⟩
    rw [HE.out]
    split
    all_goals first
      | rfl
      | (exfalso; omega)

def viewE (cx cy sc wd ht : Int) : Int := if ptE cx cy = 0 ∧ 1 ≤ sc ∧ sc ≤ 50000 ∧ sideE wd ht = 0 then 0 else 4
theorem viewE_cases (cx cy sc wd ht : Int) : viewE cx cy sc wd ht = 0 ∨ viewE cx cy sc wd ht = 4 := by unfold viewE; split <;> simp
theorem ptE_cases (x y : Int) : ptE x y = 0 ∨ ptE x y = 4 := by unfold ptE; split <;> simp
theorem ptE_zero {x y : Int} (h : ptE x y = 0) : -1000000 ≤ x ∧ x ≤ 1000000 ∧ -1000000 ≤ y ∧ y ≤ 1000000 := by
  unfold ptE at h
  split at h
  · assumption
  · cases h

set_option maxRecDepth 100000 in
set_option maxHeartbeats 4000000 in
theorem Check_any (cx cy sc wd ht : Int) (w : World) :
    Calls Try.prog 21 #[.agg #[.int .i64 cx, .int .i64 cy, .int .i64 sc, .int .i64 wd, .int .i64 ht]] w fun e w' => e = .returned (.int .i64 (viewE cx cy sc wd ht)) ∧ Below w.heap.size w w' := by
  by_cases hp : ptE cx cy = 0
  · by_cases hs : 1 ≤ sc ∧ sc ≤ 50000
    · obtain ⟨a1, a2, a3, a4⟩ := ptE_zero hp
      refine (Check_ok cx cy sc wd ht w a1 a2 a3 a4 hs.1 hs.2).mono fun e w' ⟨h1, h2⟩ => ⟨?_, h2⟩
      rw [h1]
      unfold viewE
      rcases (show sideE wd ht = 0 ∨ sideE wd ht = 4 from sideE_cases wd ht) with h | h
      · rw [h, if_pos ⟨hp, hs.1, hs.2, rfl⟩]
      · rw [h, if_neg (fun x => by cases x.2.2.2)]
    · have hv : viewE cx cy sc wd ht = 4 := by
        unfold viewE
        rw [if_neg]
        rintro ⟨_, b, c, _⟩
        exact hs ⟨b, c⟩
      rw [hv]
      have HP := Lib.hid (fun (W : World) => PCheck_any cx cy W)
      rw [hp] at HP
      have HS := Lib.hid hs
      clear hs hp hv
      by_cases hs1 : sc < 1
      · go_enter Try.func21, Try.ntmps21
        go_wp2_with (go_at_call 22; go_loud (refine (HP.out _).mono ?_; rintro e w1 ⟨rfl, hb1⟩; obtain ⟨hc1, hf1⟩ := bcell hb1; have hz1 := hb1.size; simp at hz1))
        go_ret
        exact ⟨rfl, ((Below.refl _ w).alloc (Nat.le_refl _) _).trans (hb1.mono (by simp))⟩
      · have hs2 : 50000 < sc := by have := HS.out; omega
        go_enter Try.func21, Try.ntmps21
        go_wp2_with (go_at_call 22; go_loud (refine (HP.out _).mono ?_; rintro e w1 ⟨rfl, hb1⟩; obtain ⟨hc1, hf1⟩ := bcell hb1; have hz1 := hb1.size; simp at hz1))
        all_goals
          go_ret
          exact ⟨rfl, ((Below.refl _ w).alloc (Nat.le_refl _) _).trans (hb1.mono (by simp))⟩
  · have hv : viewE cx cy sc wd ht = 4 := by
      unfold viewE
      rw [if_neg (fun x => hp x.1)]
    rw [hv]
    have hp4 : ptE cx cy = 4 := (ptE_cases cx cy).resolve_left hp
    have HP := Lib.hid (fun (W : World) => PCheck_any cx cy W)
    rw [hp4] at HP
    clear hp hv hp4
    go_enter Try.func21, Try.ntmps21
    go_wp2_with (go_at_call 22; go_loud (refine (HP.out _).mono ?_; rintro e w1 ⟨rfl, hb1⟩; obtain ⟨hc1, hf1⟩ := bcell hb1; have hz1 := hb1.size; simp at hz1))
    go_ret
    exact ⟨rfl, ((Below.refl _ w).alloc (Nat.le_refl _) _).trans (hb1.mono (by simp))⟩

set_option maxRecDepth 100000 in
set_option maxHeartbeats 4000000 in
theorem check_bad (cx cy sc wd ht : Int) (L A : Option Addr) (m cL n c : Nat) (w : World) (h : viewE cx cy sc wd ht = 4) :
    Calls Try.prog 25 #[.agg #[.int .i64 cx, .int .i64 cy, .int .i64 sc, .int .i64 wd, .int .i64 ht], .slice L m cL, .slice A n c] w fun e w' => e = .returned (.int .i64 4) ∧ Below w.heap.size w w' := by
  have HC := Lib.hid (fun (W : World) => Check_any cx cy sc wd ht W)
  rw [h] at HC
  clear h
  go_enter Try.func25, Try.ntmps25
  go_wp2_with (go_at_call 21; go_loud (refine (HC.out _).mono ?_; rintro e w1 ⟨rfl, hb1⟩))
  go_ret
  exact ⟨rfl, ((Below.refl _ w).alloc (Nat.le_refl _) _).trans (hb1.mono (by simp))⟩

set_option maxRecDepth 100000 in
set_option maxHeartbeats 4000000 in
theorem Picture_bad (cx cy sc wd ht : Int) (L A : Option Addr) (m cL n c : Nat) (w : World) (h : ∀ W, Calls Try.prog 25 #[.agg #[.int .i64 cx, .int .i64 cy, .int .i64 sc, .int .i64 wd, .int .i64 ht], .slice L m cL, .slice A n c] (w.alloc W) fun e w' => e = .returned (.int .i64 4) ∧ Below (w.alloc W).heap.size (w.alloc W) w') :
    Calls Try.prog 13 #[.agg #[.int .i64 cx, .int .i64 cy, .int .i64 sc, .int .i64 wd, .int .i64 ht], .slice L m cL, .slice A n c] w fun e w' => e = .returned (.tuple #[.slice none 0 0, .int .i64 4]) ∧ Below w.heap.size w w' := by
  have HC := Lib.hid h
  clear h
  go_enter Try.func13, Try.ntmps13
  go_wp2_with (go_at_call 25; go_loud (refine (HC.out _).mono ?_; rintro e w1 ⟨rfl, hb1⟩))
  go_ret2
  exact ⟨rfl, ((Below.refl _ w).alloc (Nat.le_refl _) _).trans (hb1.mono (by simp))⟩

set_option maxRecDepth 100000 in
set_option maxHeartbeats 4000000 in
theorem EqualS (A B : Option Addr) (f : Nat → ByteArray) (n c d N : Nat) (w : World) (hA : Sl w N 1 A n (fun i => [.string (f i)])) (hB : Sl w N 1 B n (fun i => [.string (f i)])) (hn : n ≤ 1000) :
    Calls Try.prog 14 #[.slice A n c, .slice B n d] w fun e w' => e = .returned (.bool true) ∧ ∃ q, w' = w.drewN q := by
  have HA := Lib.hid hA
  have HB := Lib.hid hB
  clear hA hB
  go_enter Try.func14, Try.ntmps14
  go_wp2
  go_loopw [13] (fun k wr => ∃ j : Nat, j ≤ n ∧ k = .int .i64 j ∧ ∃ q, wr = w.drewN q) (fun k _ => n - (intOf k).toNat)
  case atStart => exact ⟨0, by omega, rfl, 0, rfl⟩
  case round =>
    obtain ⟨j, hj, rfl, q, rfl⟩ := hrel
    by_cases hlt : j < n
    · obtain ⟨b, off, rfl, hb, hc⟩ := HA.out.one (by omega)
      obtain ⟨b2, off2, rfl, hb2, hc2⟩ := HB.out.one (by omega)
      have c1 := hc j hlt
      have c2 := hc2 j hlt
      clear hc hc2
      generalize f j = x at *
      have l1 : (j : Int) < (n : Int) := by omega
      have l0 : (0 : Int) ≤ (j : Int) := by omega
      go_wp2
      go_quiet (fail)
      go_wp2
      go_roundw
      case rel => exact ⟨j + 1, by omega, by go_num, _, rfl⟩
      case measure => simp [intOf]; omega
    · go_wp2
      go_ret
      exact ⟨rfl, q, rfl⟩

set_option maxRecDepth 100000 in
set_option maxHeartbeats 4000000 in
theorem near_any (x y : Int) (w : World) : Calls Try.prog 11 #[.agg #[.int .i64 x, .int .i64 y]] w fun e w' => e = .returned (.agg #[.int .i64 (cutI x (-90000) 90000), .int .i64 (cutI y (-90000) 90000)]) ∧ Below w.heap.size w w' := by
  have C1 := Lib.hid (fun W => Cut_any x (-90000) 90000 W (by omega) (by omega) (by omega))
  have C2 := Lib.hid (fun W => Cut_any y (-90000) 90000 W (by omega) (by omega) (by omega))
  generalize cutI x (-90000) 90000 = x0 at *
  generalize cutI y (-90000) 90000 = y0 at *
  obtain ⟨W0, hW0, gv, gp, hb0⟩ : ∃ W0, (w.alloc (.cells #[.int .i64 x, .int .i64 y] 23)).alloc (.cells #[.int .i64 0, .int .i64 0] 23) = W0 ∧ W0.heap[w.heap.size]? = some (.cells #[.int .i64 x, .int .i64 y] 23 (0, 0)) ∧ W0.heap[w.heap.size + 1]? = some (.cells #[.int .i64 0, .int .i64 0] 23 (0, 0)) ∧ Below w.heap.size w W0 :=
    ⟨_, rfl, (Below.heap_alloc _ _ w.heap.size (by simp)).trans (heap_alloc_new w _), by have := heap_alloc_new (w.alloc (.cells #[.int .i64 x, .int .i64 y] 23)) (.cells #[.int .i64 0, .int .i64 0] 23); simpa using this, ((Below.refl _ w).alloc (Nat.le_refl _) _).alloc (by simp) _⟩
  have v0 := cell_of_row W0 w.heap.size 0 _ 23 (0, 0) gv
  have v1 := cell_of_row W0 w.heap.size 1 _ 23 (0, 0) gv
  have p0 := cell_of_row W0 (w.heap.size + 1) 0 _ 23 (0, 0) gp
  have p1 := cell_of_row W0 (w.heap.size + 1) 1 _ 23 (0, 0) gp
  have f0 := frozen_of_row W0 (w.heap.size + 1) 0 _ 23 gp
  have f1 := frozen_of_row W0 (w.heap.size + 1) 1 _ 23 gp
  go_enter Try.func11, Try.ntmps11
  go_wp2
  refine wp_region_still_tail 7 (by kernel_rfl) (by kernel_rfl) ?_
  simp only [List.take_succ_cons, List.take_zero, List.drop_succ_cons, List.drop_zero]
  still_step
  still_step
  still_call ((C1.out _).mono fun _ _ h => ⟨h.1, h.2.symm⟩)
  still_step
  still_step
  still_call ((C2.out _).mono fun _ _ h => ⟨h.1, h.2.symm⟩)
  still_step
  refine wpStill_nil ?_
  change wpList _ _ _ _ _ W0.drew
  go_wp2
  refine bodyPost_ret (v := .agg #[.int .i64 x0, .int .i64 y0]) (by simp [results, Try.results11, go_sem, p0, p1]) rfl ⟨rfl, ?_⟩
  exact ((hb0.setCell (p := ⟨w.heap.size + 1, 0, none⟩) (by show w.heap.size ≤ w.heap.size + 1; omega) _).setCell (p := ⟨w.heap.size + 1, 1, none⟩) (by show w.heap.size ≤ w.heap.size + 1; omega) _).drew

set_option maxRecDepth 100000 in
set_option maxHeartbeats 4000000 in
theorem add_any (x y bx bY : Int) (B : Nat) (w : World) (hB : B < w.heap.size) (hg : w.heap[B]? = some (.cells #[.int .i64 bx, .int .i64 bY] 23 (0, 0))) (h1 : -100000 ≤ x ∧ x ≤ 100000) (h2 : -100000 ≤ y ∧ y ≤ 100000) (h3 : -1000 ≤ bx ∧ bx ≤ 1000) (h4 : -1000 ≤ bY ∧ bY ≤ 1000) :
    Calls Try.prog 12 #[.agg #[.int .i64 x, .int .i64 y], .pointer (some ⟨B, 0, none⟩)] w fun e w' => e = .returned (.agg #[.int .i64 (x + bx), .int .i64 (y + bY)]) ∧ Below w.heap.size w w' := by
  have c0 := cell_of_row w B 0 _ 23 (0, 0) hg
  have c1 := cell_of_row w B 1 _ 23 (0, 0) hg
  have hne : B ≠ w.heap.size := by omega
  have hne2 : B ≠ w.heap.size + 1 := by omega
  have w1 : IntKind.i64.wrap (x + bx) = x + bx := IntWalk.i64_in _ (by omega)
  have w2 : IntKind.i64.wrap (y + bY) = y + bY := IntWalk.i64_in _ (by omega)
  clear hg h1 h2 h3 h4
  go_enter Try.func12, Try.ntmps12
  go_wp2
  refine bodyPost_ret (v := .agg #[.int .i64 (x + bx), .int .i64 (y + bY)]) (by simp [results, Try.results12, go_sem]) rfl ⟨rfl, ?_⟩
  exact ((Below.refl _ w).alloc (Nat.le_refl _) _).alloc (by simp) _
end Go.Proofs.Ytlkdjnmehnibmaa
