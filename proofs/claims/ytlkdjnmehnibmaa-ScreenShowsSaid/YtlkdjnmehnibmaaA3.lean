/- Package screen: Cell. -/
import Derived.Test.YtlkdjnmehnibmaaA2
import Derived.Deep.RegionHeld3
namespace Go.Proofs.Ytlkdjnmehnibmaa
open Go.RowKit

set_option maxRecDepth 100000 in
set_option maxHeartbeats 4000000 in
theorem Cell_bad (cx cy sc wd ht x y : Int) (w : World) (h1 : -1000000 ≤ cx) (h2 : cx ≤ 1000000) (h3 : -1000000 ≤ cy) (h4 : cy ≤ 1000000) (h5 : 1 ≤ sc) (h6 : sc ≤ 50000) (hb : sideE wd ht = 4) :
    Calls Try.prog 9 #[.agg #[.int .i64 cx, .int .i64 cy, .int .i64 sc, .int .i64 wd, .int .i64 ht], .agg #[.int .i64 x, .int .i64 y]] w fun e w' => e = .returned (.tuple #[.agg #[.int .i64 0, .int .i64 0], .bool false, .int .i64 4]) ∧ Below w.heap.size w w' := by
  have HC := Lib.hid (fun W => Check_ok cx cy sc wd ht W h1 h2 h3 h4 h5 h6)
  rw [hb] at HC
  clear hb
  go_enter Try.func9, Try.ntmps9
  go_wp2_with (go_at_call 21; go_loud (refine (HC.out _).mono ?_; rintro e w1 ⟨rfl, hb1⟩; obtain ⟨hc1, hf1⟩ := bcell hb1; have hz1 := hb1.size; simp at hz1; have HB := Lib.hid hb1; clear hb1))
  refine bodyPost_ret (v := .tuple #[.agg #[.int .i64 0, .int .i64 0], .bool false, .int .i64 4]) (by simp [results, Try.results9, go_sem, hc1]) rfl ⟨rfl, ?_⟩
  exact ((((((Below.refl _ w).alloc (Nat.le_refl _) _).alloc (by simp) _).alloc (by simp; omega) _).trans (HB.out.mono (by simp; omega))).setCell (p := ⟨w.heap.size + 1 + 1, 0, none⟩) (by show w.heap.size ≤ w.heap.size + 1 + 1; omega) _).setCell (p := ⟨w.heap.size + 1 + 1, 1, none⟩) (by show w.heap.size ≤ w.heap.size + 1 + 1; omega) _

set_option maxRecDepth 100000 in
set_option maxHeartbeats 4000000 in
theorem Cell_ok (cx cy sc wd ht x y : Int) (w : World) (h1 : -1000000 ≤ cx) (h2 : cx ≤ 1000000) (h3 : -1000000 ≤ cy) (h4 : cy ≤ 1000000) (h5 : 1 ≤ sc) (h6 : sc ≤ 50000) (hb : sideE wd ht = 0) (hx : -1000000 ≤ x ∧ x ≤ 1000000) (hy : -1000000 ≤ y ∧ y ≤ 1000000) (r1 r2 : Int) (hr1 : r1 = (x - cx) / sc + wd / 2) (hr2 : r2 = (y - cy) / sc + ht / 2) :
    Calls Try.prog 9 #[.agg #[.int .i64 cx, .int .i64 cy, .int .i64 sc, .int .i64 wd, .int .i64 ht], .agg #[.int .i64 x, .int .i64 y]] w fun e w' => e = .returned (.tuple #[.agg #[.int .i64 r1, .int .i64 r2], .bool (visB wd ht r1 r2), .int .i64 0]) ∧ Below w.heap.size w w' := by
  have HC := Lib.hid (fun W => Check_ok cx cy sc wd ht W h1 h2 h3 h4 h5 h6)
  have HP := Lib.hid (fun W => PCheck_ok x y W hx.1 hx.2 hy.1 hy.2)
  have hs : 1 ≤ wd ∧ wd ≤ 60 ∧ 1 ≤ ht ∧ ht ≤ 60 := by
    unfold sideE at hb
    by_cases c : 1 ≤ wd ∧ wd ≤ 60 ∧ 1 ≤ ht ∧ ht ≤ 60
    · exact c
    · rw [if_neg c] at hb; cases hb
  have HE := Lib.hid (fun W => cell_any cx cy sc wd ht x y W (by omega) (by omega) ⟨h5, h6⟩ (by omega) (by omega))
  rw [← hr1, ← hr2] at HE
  rw [hb] at HC
  clear hb hr1 hr2 h1 h2 h3 h4 h5 h6 hx hy
  go_enter Try.func9, Try.ntmps9
  go_wp2_with (first
    | (go_at_call 21; go_loud (refine (HC.out _).mono ?_; rintro e w1 ⟨rfl, hb1⟩; obtain ⟨hc1, hf1⟩ := bcell hb1; have hz1 := hb1.size; simp at hz1; have za1 : w.heap.size < w1.heap.size := (by omega); have zb1 : w.heap.size + 1 < w1.heap.size := (by omega); have zc1 : w.heap.size + 1 + 1 < w1.heap.size := (by omega); have HB1 := Lib.hid hb1; clear hb1))
    | (go_at_call 22; go_loud (refine (HP.out _).mono ?_; rintro e w2 ⟨rfl, hb2⟩; obtain ⟨hc2, hf2⟩ := bcell hb2; have hz2 := hb2.size; have za2 : w.heap.size < w2.heap.size := (by omega); have zb2 : w.heap.size + 1 < w2.heap.size := (by omega); have zc2 : w.heap.size + 1 + 1 < w2.heap.size := (by omega); have HB2 := Lib.hid hb2; clear hb2))
    | (go_at_call 23; go_loud (refine (HE.out _).mono ?_; rintro e w3 ⟨rfl, hb3⟩; have hz3 := hb3.size; obtain ⟨hc3, hf3⟩ := bcell hb3; have za3 : w.heap.size < w3.heap.size := (by omega); have zb3 : w.heap.size + 1 < w3.heap.size := (by omega); have zc3 : w.heap.size + 1 + 1 < w3.heap.size := (by omega); have HB3 := Lib.hid hb3; clear hb3)))
  have hb : Below (w.heap.size + 3) (((w.alloc (.cells #[.int .i64 cx, .int .i64 cy, .int .i64 sc, .int .i64 wd, .int .i64 ht] 25)).alloc (.cells #[.int .i64 x, .int .i64 y] 23)).alloc (.cells #[.int .i64 0, .int .i64 0] 27)) w3 := by
    have := HB1.out
    simp at this
    exact (this.mono (by omega)).trans ((HB2.out.mono (by omega)).trans (HB3.out.mono (by omega)))
  have gV := (hb.block w.heap.size (by omega)).trans ((Below.heap_alloc _ _ w.heap.size (by simp; omega)).trans ((Below.heap_alloc _ _ w.heap.size (by simp)).trans (heap_alloc_new w _)))
  have gR : w3.heap[w.heap.size + 1 + 1]? = some (.cells #[.int .i64 0, .int .i64 0] 27 (0, 0)) := (hb.block (w.heap.size + 1 + 1) (by omega)).trans (by have := heap_alloc_new ((w.alloc (.cells #[.int .i64 cx, .int .i64 cy, .int .i64 sc, .int .i64 wd, .int .i64 ht] 25)).alloc (.cells #[.int .i64 x, .int .i64 y] 23)) (.cells #[.int .i64 0, .int .i64 0] 27); simpa using this)
  have hbw : Below w.heap.size w w3 := ((((Below.refl _ w).alloc (Nat.le_refl _) _).alloc (by simp) _).alloc (by simp; omega) _).trans (hb.mono (by omega))
  have hW : ∃ W, w3.alloc (.cells #[.int .i64 r1, .int .i64 r2] 27) = W ∧ W.heap[w.heap.size]? = some (.cells #[.int .i64 cx, .int .i64 cy, .int .i64 sc, .int .i64 wd, .int .i64 ht] 25 (0, 0)) ∧ W.heap[w.heap.size + 1 + 1]? = some (.cells #[.int .i64 0, .int .i64 0] 27 (0, 0)) ∧ W.heap[w3.heap.size]? = some (.cells #[.int .i64 r1, .int .i64 r2] 27 (0, 0)) ∧ Below w.heap.size w W ∧ w3.heap.size < W.heap.size :=
    ⟨_, rfl, (Below.heap_alloc w3 _ w.heap.size (by omega)).trans gV, (Below.heap_alloc w3 _ (w.heap.size + 1 + 1) (by omega)).trans gR, heap_alloc_new w3 _, hbw.alloc hbw.size _, by simp⟩
  obtain ⟨W, hWe, k1, k2, k3, k4, k5⟩ := hW
  rw [hWe]
  generalize hT : w3.heap.size = T at *
  have HK := Lib.hid (And.intro k1 (And.intro k2 (And.intro k3 k4)))
  have HV := Lib.hid (fun W' => visible_any cx cy sc wd ht r1 r2 W')
  have zW : w.heap.size + 1 + 1 < W.heap.size := by omega
  clear hb gV gR hbw hWe k1 k2 k3 k4 hc1 hf1 hc2 hf2 hc3 hf3 hz1 hz2 hz3 HB1 HB2 HB3 HC HP HE hT
  refine Dr.region (Dr.Ph (fun w' => Below W.heap.size W w') (fun w' => ∃ w5, Below W.heap.size W w5 ∧ w' = (w5.setCell ⟨w.heap.size + 1 + 1, 0, none⟩ (.int .i64 r1)).setCell ⟨w.heap.size + 1 + 1, 1, none⟩ (.int .i64 r2))) [4] [(0, 0, false), (0, 0, false), (0, 0, false), (0, 0, false), (0, 0, true), (1, 1, false), (1, 1, false)] 1 (by kernel_rfl) (by kernel_rfl) (by kernel_rfl) (by kernel_rfl) (Below.refl _ W).drew ?_
  apply Dr.cons
  · intro k hk1 hk2 w' hw K hK
    obtain rfl : k = 0 := by omega
    have hw : Below W.heap.size W w' := hw
    have t0 : w'.cell? ⟨T, 0, none⟩ = some (.int .i64 r1) := (hw.cell (p := ⟨T, 0, none⟩) k5).trans (cell_of_row W T 0 _ 27 (0, 0) HK.out.2.2.1)
    have t1 : w'.cell? ⟨T, 1, none⟩ = some (.int .i64 r2) := (hw.cell (p := ⟨T, 1, none⟩) k5).trans (cell_of_row W T 1 _ 27 (0, 0) HK.out.2.2.1)
    go_simp
    exact hK _ hw
  · exact ⟨_, rfl⟩
  apply Dr.cons
  · intro k hk1 hk2 w' hw K hK
    obtain rfl : k = 0 := by omega
    have hw : Below W.heap.size W w' := hw
    have hvl : w.heap.size < W.heap.size := by omega
    have t0 : w'.cell? ⟨w.heap.size, 0, none⟩ = some (.int .i64 cx) := (hw.cell (p := ⟨w.heap.size, 0, none⟩) hvl).trans (cell_of_row W w.heap.size 0 _ 25 (0, 0) HK.out.1)
    have t1 : w'.cell? ⟨w.heap.size, 1, none⟩ = some (.int .i64 cy) := (hw.cell (p := ⟨w.heap.size, 1, none⟩) hvl).trans (cell_of_row W w.heap.size 1 _ 25 (0, 0) HK.out.1)
    have t2 : w'.cell? ⟨w.heap.size, 2, none⟩ = some (.int .i64 sc) := (hw.cell (p := ⟨w.heap.size, 2, none⟩) hvl).trans (cell_of_row W w.heap.size 2 _ 25 (0, 0) HK.out.1)
    have t3 : w'.cell? ⟨w.heap.size, 3, none⟩ = some (.int .i64 wd) := (hw.cell (p := ⟨w.heap.size, 3, none⟩) hvl).trans (cell_of_row W w.heap.size 3 _ 25 (0, 0) HK.out.1)
    have t4 : w'.cell? ⟨w.heap.size, 4, none⟩ = some (.int .i64 ht) := (hw.cell (p := ⟨w.heap.size, 4, none⟩) hvl).trans (cell_of_row W w.heap.size 4 _ 25 (0, 0) HK.out.1)
    go_simp
    exact hK _ hw
  · exact ⟨_, rfl⟩
  apply Dr.cons
  · intro k hk1 hk2 w' hw K hK
    obtain rfl : k = 0 := by omega
    have hw : Below W.heap.size W w' := hw
    have t0 : w'.cell? ⟨T, 0, none⟩ = some (.int .i64 r1) := (hw.cell (p := ⟨T, 0, none⟩) k5).trans (cell_of_row W T 0 _ 27 (0, 0) HK.out.2.2.1)
    have t1 : w'.cell? ⟨T, 1, none⟩ = some (.int .i64 r2) := (hw.cell (p := ⟨T, 1, none⟩) k5).trans (cell_of_row W T 1 _ 27 (0, 0) HK.out.2.2.1)
    go_simp
    exact hK _ hw
  · exact ⟨_, rfl⟩
  apply Dr.cons
  · intro k hk1 hk2 w' hw K hK
    obtain rfl : k = 0 := by omega
    have hw : Below W.heap.size W w' := hw
    go_simp
    refine (HV.out w').mono ?_
    rintro e w5 ⟨rfl, hb5⟩
    exact hK _ (hw.trans (hb5.mono hw.size))
  · exact ⟨_, rfl⟩
  apply Dr.cons
  · intro k hk1 hk2 w' hw K hK
    obtain rfl : k = 0 := by omega
    have hw : Below W.heap.size W w' := hw
    have t0 : w'.cell? ⟨w.heap.size + 1 + 1, 0, none⟩ = some (.int .i64 0) := (hw.cell (p := ⟨w.heap.size + 1 + 1, 0, none⟩) zW).trans (cell_of_row W _ 0 _ 27 (0, 0) HK.out.2.1)
    have t1 : w'.cell? ⟨w.heap.size + 1 + 1, 1, none⟩ = some (.int .i64 0) := (hw.cell (p := ⟨w.heap.size + 1 + 1, 1, none⟩) zW).trans (cell_of_row W _ 1 _ 27 (0, 0) HK.out.2.1)
    have f0 : w'.frozen? ⟨w.heap.size + 1 + 1, 0, none⟩ = false := (hw.frozen (p := ⟨w.heap.size + 1 + 1, 0, none⟩) zW).trans (frozen_of_row W _ 0 _ 27 HK.out.2.1)
    have f1 : w'.frozen? ⟨w.heap.size + 1 + 1, 1, none⟩ = false := (hw.frozen (p := ⟨w.heap.size + 1 + 1, 1, none⟩) zW).trans (frozen_of_row W _ 1 _ 27 HK.out.2.1)
    go_simp
    exact hK _ ⟨w', hw, rfl⟩
  · exact ⟨.int .i64 0, rfl⟩
  apply Dr.cons
  · intro k hk1 hk2 w' hw K hK; go_simp; exact hK _ hw
  · exact ⟨_, rfl⟩
  apply Dr.cons
  · intro k hk1 hk2 w' hw K hK; go_simp; exact hK _ hw
  · exact ⟨_, rfl⟩
  intro w6 hw6
  obtain ⟨w5, hw5, rfl⟩ : ∃ w5, Below W.heap.size W w5 ∧ w6 = (w5.setCell ⟨w.heap.size + 1 + 1, 0, none⟩ (.int .i64 r1)).setCell ⟨w.heap.size + 1 + 1, 1, none⟩ (.int .i64 r2) := hw6
  have t0 : w5.cell? ⟨w.heap.size + 1 + 1, 0, none⟩ = some (.int .i64 0) := (hw5.cell (p := ⟨w.heap.size + 1 + 1, 0, none⟩) zW).trans (cell_of_row W _ 0 _ 27 (0, 0) HK.out.2.1)
  have t1 : w5.cell? ⟨w.heap.size + 1 + 1, 1, none⟩ = some (.int .i64 0) := (hw5.cell (p := ⟨w.heap.size + 1 + 1, 1, none⟩) zW).trans (cell_of_row W _ 1 _ 27 (0, 0) HK.out.2.1)
  go_wp2
  refine bodyPost_ret (v := .tuple #[.agg #[.int .i64 r1, .int .i64 r2], .bool (visB wd ht r1 r2), .int .i64 0]) (by simp [results, Try.results9, go_sem, t0, t1]) rfl ⟨rfl, ?_⟩
  exact ((HK.out.2.2.2.trans (hw5.mono HK.out.2.2.2.size)).setCell (p := ⟨w.heap.size + 1 + 1, 0, none⟩) (by show w.heap.size ≤ w.heap.size + 1 + 1; omega) _).setCell (p := ⟨w.heap.size + 1 + 1, 1, none⟩) (by show w.heap.size ≤ w.heap.size + 1 + 1; omega) _
end Go.Proofs.Ytlkdjnmehnibmaa
