/- Package season: put. -/
import Derived.Test.YtaebebpldkciiaaGreatDoorQS5
import Derived.Test.YtaebebpldkciiaaGreatDoorQG14
import Derived.Test.YtaebebpldkciiaaGreatDoorQSQ
namespace Go.Proofs.YtaebebpldkciiaaGreatDoor
open Go.RowKit
def PutP (n : Nd) (w : World) (e : Ending) (w' : World) : Prop := ∃ a : Ac, e = .returned (acA a) ∧ a.n = n ∧ AcOk a ∧ Below w.heap.size w w'
theorem set_pt {W : World} {b : Nat} {u v : Value} (h : W.heap[b]? = some (.cells #[u, v] 48 (0, 0))) (x y : Value) : ((W.setCell ⟨b, 0, none⟩ x).setCell ⟨b, 1, none⟩ y).heap[b]? = some (.cells #[x, y] 48 (0, 0)) := by
 have h1 := heap_setCell_same W b 0 #[u, v] 48 x h
 exact heap_setCell_same _ b 1 _ 48 y h1
theorem put_end {n : Nd} {x y h : Int} {w W : World} {B : Nat} {A : Act} (hs : W.heap[B + 1]? = some (.cells #[.int .i64 0, .int .i64 0, .int .i64 0, .int .i64 0, .int .i64 0, .int .i64 0, .int .i64 0, .int .i64 0, .int .i64 0] 139 (0, 0))) (hb : Below w.heap.size w W) (hB : w.heap.size ≤ B + 1)
  (hac : AcOk ⟨n, x, y, h⟩) (h4 : A.tmps.getD 4 undef = .pointer (some ⟨B + 1, 0, none⟩)) (hd : A.defers = []) :
  bodyPost Tryz.prog Tryz.f73 (PutP n w) Exit.ret A (((((((((W.setCell ⟨B + 1, 0, none⟩ (.int .i64 n.t)).setCell ⟨B + 1, 1, none⟩ (.int .i64 n.x)).setCell ⟨B + 1, 2, none⟩ (.int .i64 n.y)).setCell ⟨B + 1, 3, none⟩ (.int .i64 n.h)).setCell ⟨B + 1, 4, none⟩ (.int .i64 n.r)).setCell ⟨B + 1, 5, none⟩ (.int .i64 n.b)).setCell ⟨B + 1, 6, none⟩ (.int .i64 x)).setCell ⟨B + 1, 7, none⟩ (.int .i64 y)).setCell ⟨B + 1, 8, none⟩ (.int .i64 h)) := by
 have r0 := heap_setCell_same (W) (B + 1) 0 _ 139 (.int .i64 n.t) hs
 obtain ⟨W0, hW0⟩ : ∃ X, (W).setCell ⟨B + 1, 0, none⟩ (.int .i64 n.t) = X := ⟨_, rfl⟩
 have b0 : Below w.heap.size w W0 := by rw [← hW0]; exact hb.setCell hB _
 rw [hW0] at r0 ⊢
 replace r0 : W0.heap[B + 1]? = some (.cells #[.int .i64 n.t, .int .i64 0, .int .i64 0, .int .i64 0, .int .i64 0, .int .i64 0, .int .i64 0, .int .i64 0, .int .i64 0] 139 (0, 0)) := r0
 clear hW0
 have r1 := heap_setCell_same (W0) (B + 1) 1 _ 139 (.int .i64 n.x) r0
 obtain ⟨W1, hW1⟩ : ∃ X, (W0).setCell ⟨B + 1, 1, none⟩ (.int .i64 n.x) = X := ⟨_, rfl⟩
 have b1 : Below w.heap.size w W1 := by rw [← hW1]; exact b0.setCell hB _
 rw [hW1] at r1 ⊢
 replace r1 : W1.heap[B + 1]? = some (.cells #[.int .i64 n.t, .int .i64 n.x, .int .i64 0, .int .i64 0, .int .i64 0, .int .i64 0, .int .i64 0, .int .i64 0, .int .i64 0] 139 (0, 0)) := r1
 clear hW1
 have r2 := heap_setCell_same (W1) (B + 1) 2 _ 139 (.int .i64 n.y) r1
 obtain ⟨W2, hW2⟩ : ∃ X, (W1).setCell ⟨B + 1, 2, none⟩ (.int .i64 n.y) = X := ⟨_, rfl⟩
 have b2 : Below w.heap.size w W2 := by rw [← hW2]; exact b1.setCell hB _
 rw [hW2] at r2 ⊢
 replace r2 : W2.heap[B + 1]? = some (.cells #[.int .i64 n.t, .int .i64 n.x, .int .i64 n.y, .int .i64 0, .int .i64 0, .int .i64 0, .int .i64 0, .int .i64 0, .int .i64 0] 139 (0, 0)) := r2
 clear hW2
 have r3 := heap_setCell_same (W2) (B + 1) 3 _ 139 (.int .i64 n.h) r2
 obtain ⟨W3, hW3⟩ : ∃ X, (W2).setCell ⟨B + 1, 3, none⟩ (.int .i64 n.h) = X := ⟨_, rfl⟩
 have b3 : Below w.heap.size w W3 := by rw [← hW3]; exact b2.setCell hB _
 rw [hW3] at r3 ⊢
 replace r3 : W3.heap[B + 1]? = some (.cells #[.int .i64 n.t, .int .i64 n.x, .int .i64 n.y, .int .i64 n.h, .int .i64 0, .int .i64 0, .int .i64 0, .int .i64 0, .int .i64 0] 139 (0, 0)) := r3
 clear hW3
 have r4 := heap_setCell_same (W3) (B + 1) 4 _ 139 (.int .i64 n.r) r3
 obtain ⟨W4, hW4⟩ : ∃ X, (W3).setCell ⟨B + 1, 4, none⟩ (.int .i64 n.r) = X := ⟨_, rfl⟩
 have b4 : Below w.heap.size w W4 := by rw [← hW4]; exact b3.setCell hB _
 rw [hW4] at r4 ⊢
 replace r4 : W4.heap[B + 1]? = some (.cells #[.int .i64 n.t, .int .i64 n.x, .int .i64 n.y, .int .i64 n.h, .int .i64 n.r, .int .i64 0, .int .i64 0, .int .i64 0, .int .i64 0] 139 (0, 0)) := r4
 clear hW4
 have r5 := heap_setCell_same (W4) (B + 1) 5 _ 139 (.int .i64 n.b) r4
 obtain ⟨W5, hW5⟩ : ∃ X, (W4).setCell ⟨B + 1, 5, none⟩ (.int .i64 n.b) = X := ⟨_, rfl⟩
 have b5 : Below w.heap.size w W5 := by rw [← hW5]; exact b4.setCell hB _
 rw [hW5] at r5 ⊢
 replace r5 : W5.heap[B + 1]? = some (.cells #[.int .i64 n.t, .int .i64 n.x, .int .i64 n.y, .int .i64 n.h, .int .i64 n.r, .int .i64 n.b, .int .i64 0, .int .i64 0, .int .i64 0] 139 (0, 0)) := r5
 clear hW5
 have r6 := heap_setCell_same (W5) (B + 1) 6 _ 139 (.int .i64 x) r5
 obtain ⟨W6, hW6⟩ : ∃ X, (W5).setCell ⟨B + 1, 6, none⟩ (.int .i64 x) = X := ⟨_, rfl⟩
 have b6 : Below w.heap.size w W6 := by rw [← hW6]; exact b5.setCell hB _
 rw [hW6] at r6 ⊢
 replace r6 : W6.heap[B + 1]? = some (.cells #[.int .i64 n.t, .int .i64 n.x, .int .i64 n.y, .int .i64 n.h, .int .i64 n.r, .int .i64 n.b, .int .i64 x, .int .i64 0, .int .i64 0] 139 (0, 0)) := r6
 clear hW6
 have r7 := heap_setCell_same (W6) (B + 1) 7 _ 139 (.int .i64 y) r6
 obtain ⟨W7, hW7⟩ : ∃ X, (W6).setCell ⟨B + 1, 7, none⟩ (.int .i64 y) = X := ⟨_, rfl⟩
 have b7 : Below w.heap.size w W7 := by rw [← hW7]; exact b6.setCell hB _
 rw [hW7] at r7 ⊢
 replace r7 : W7.heap[B + 1]? = some (.cells #[.int .i64 n.t, .int .i64 n.x, .int .i64 n.y, .int .i64 n.h, .int .i64 n.r, .int .i64 n.b, .int .i64 x, .int .i64 y, .int .i64 0] 139 (0, 0)) := r7
 clear hW7
 have r8 := heap_setCell_same (W7) (B + 1) 8 _ 139 (.int .i64 h) r7
 obtain ⟨W8, hW8⟩ : ∃ X, (W7).setCell ⟨B + 1, 8, none⟩ (.int .i64 h) = X := ⟨_, rfl⟩
 have b8 : Below w.heap.size w W8 := by rw [← hW8]; exact b7.setCell hB _
 rw [hW8] at r8 ⊢
 replace r8 : W8.heap[B + 1]? = some (.cells #[.int .i64 n.t, .int .i64 n.x, .int .i64 n.y, .int .i64 n.h, .int .i64 n.r, .int .i64 n.b, .int .i64 x, .int .i64 y, .int .i64 h] 139 (0, 0)) := r8
 clear hW8
 refine bodyPost_ret (results_cell_row rfl _ _ (B + 1) 139 #[.int .i64 n.t, .int .i64 n.x, .int .i64 n.y, .int .i64 n.h, .int .i64 n.r, .int .i64 n.b, .int .i64 x, .int .i64 y, .int .i64 h] (0, 0) _ h4 r8 Tryz.underlying139 rfl (by kernel_rfl)) hd ⟨⟨n, x, y, h⟩, rfl, rfl, hac, ?_⟩
 exact b8
theorem mask3 {k : Int} (h0 : 0 ≤ k) (h1 : k < 1000000000000) : bits .and .i64 k 3 = k % 4 :=
 bits_mask .i64 62 (by decide) (fun n h0 h1 => IntWalk.i64_in _ (by omega)) 2 (by decide) k h0 (by omega)
theorem mask1023 {k : Int} (h0 : 0 ≤ k) (h1 : k < 1000000000000) : bits .and .i64 k 1023 = k % 1024 :=
 bits_mask .i64 62 (by decide) (fun n h0 h1 => IntWalk.i64_in _ (by omega)) 10 (by decide) k h0 (by omega)
theorem mask1 {k : Int} (h0 : 0 ≤ k) (h1 : k < 1000000000000) : bits .and .i64 k 1 = k % 2 :=
 bits_mask .i64 62 (by decide) (fun n h0 h1 => IntWalk.i64_in _ (by omega)) 1 (by decide) k h0 (by omega)
set_option maxRecDepth 100000 in
set_option maxHeartbeats 4000000 in
theorem put_any (n : Nd) (hn : NdOk n) (k : Int) (hk0 : 0 ≤ k) (hk1 : k < 1000000000000) (w : World) (ht : TabAt w) : Calls Tryz.prog 73 #[ndA n, .int .i64 k] w (PutP n w) := by
 have HV := Lib.hid (fun (h : Int) (W : World) (hb : Below w.heap.size w W) => Vector_any h n.r hn.r0 (by have := hn.r1; omega) W (ht.below hb))
 have HOk := Lib.hid hn
 have m1 := mask3 hk0 hk1
 have m2 := mask1023 (k := k / 4) (by omega) (by omega)
 have m3 := mask1 (k := k / 4096) (by omega) (by omega)
 unfold ndA
 obtain ⟨j, hj⟩ : ∃ j : Nat, k % 4 = (j : Int) := ⟨(k % 4).toNat, by omega⟩
 obtain ⟨m, hm⟩ : ∃ m : Int, k / 4 % 1024 = m := ⟨_, rfl⟩
 have hj4 : j < 4 := by omega
 have hm0 : 0 ≤ m ∧ m < 1024 := by omega
 rw [hj] at m1
 rw [hm] at m2
 clear ht hn hj hm
 go_enter Tryz.func73, Tryz.ntmps73
 go_upto_region 3 with (fail)
 obtain ⟨B, hB⟩ : ∃ B, w.heap.size = B := ⟨_, rfl⟩
 obtain ⟨V, hV⟩ : ∃ V : World, (((w.alloc (.cells #[.int .i64 n.t, .int .i64 n.x, .int .i64 n.y, .int .i64 n.h, .int .i64 n.r, .int .i64 n.b] 52)).alloc (.cells #[.int .i64 0, .int .i64 0, .int .i64 0, .int .i64 0, .int .i64 0, .int .i64 0, .int .i64 0, .int .i64 0, .int .i64 0] 139)).alloc (.cells #[.int .i64 0, .int .i64 1024, .int .i64 2048, .int .i64 3072] 24)).alloc (.cells #[.int .i64 n.t, .int .i64 n.x, .int .i64 n.y, .int .i64 n.h, .int .i64 n.r, .int .i64 n.b, .int .i64 n.x, .int .i64 n.y, .int .i64 n.h] 139) = V := ⟨_, rfl⟩
 rw [hV]
 have hz0 : (w.alloc (.cells #[.int .i64 n.t, .int .i64 n.x, .int .i64 n.y, .int .i64 n.h, .int .i64 n.r, .int .i64 n.b] 52)).heap.size = B + 1 := by rw [size_al, hB]
 have hz1 : ((w.alloc (.cells #[.int .i64 n.t, .int .i64 n.x, .int .i64 n.y, .int .i64 n.h, .int .i64 n.r, .int .i64 n.b] 52)).alloc (.cells #[.int .i64 0, .int .i64 0, .int .i64 0, .int .i64 0, .int .i64 0, .int .i64 0, .int .i64 0, .int .i64 0, .int .i64 0] 139)).heap.size = B + 1 + 1 := by rw [size_al, hz0]
 have hz2 : (((w.alloc (.cells #[.int .i64 n.t, .int .i64 n.x, .int .i64 n.y, .int .i64 n.h, .int .i64 n.r, .int .i64 n.b] 52)).alloc (.cells #[.int .i64 0, .int .i64 0, .int .i64 0, .int .i64 0, .int .i64 0, .int .i64 0, .int .i64 0, .int .i64 0, .int .i64 0] 139)).alloc (.cells #[.int .i64 0, .int .i64 1024, .int .i64 2048, .int .i64 3072] 24)).heap.size = B + 1 + 1 + 1 := by rw [size_al, hz1]
 have hBV : Below B w V := by
  rw [← hV]
  exact ((((Below.refl B w).alloc (by omega) _).alloc (by omega) _).alloc (by omega) _).alloc (by omega) _
 have hZ : V.heap.size = B + 4 := by rw [← hV, size_al, hz2]
 have g0 : V.heap[B]? = some (.cells #[.int .i64 n.t, .int .i64 n.x, .int .i64 n.y, .int .i64 n.h, .int .i64 n.r, .int .i64 n.b] 52 (0, 0)) := by
  rw [← hV, al_old _ _ _ (by omega), al_old _ _ _ (by omega), al_old _ _ _ (by omega), ← hB]; exact heap_alloc_new _ _
 have g1 : V.heap[B + 1]? = some (.cells #[.int .i64 0, .int .i64 0, .int .i64 0, .int .i64 0, .int .i64 0, .int .i64 0, .int .i64 0, .int .i64 0, .int .i64 0] 139 (0, 0)) := by
  rw [← hV, al_old _ _ _ (by omega), al_old _ _ _ (by omega), ← hz0]; exact heap_alloc_new _ _
 have g2 : V.heap[B + 1 + 1]? = some (.cells #[.int .i64 0, .int .i64 1024, .int .i64 2048, .int .i64 3072] 24 (0, 0)) := by
  rw [← hV, al_old _ _ _ (by omega), ← hz1]; exact heap_alloc_new _ _
 have g3 : V.heap[B + 1 + 1 + 1]? = some (.cells #[.int .i64 n.t, .int .i64 n.x, .int .i64 n.y, .int .i64 n.h, .int .i64 n.r, .int .i64 n.b, .int .i64 n.x, .int .i64 n.y, .int .i64 n.h] 139 (0, 0)) := by
  rw [← hV, ← hz2]; exact heap_alloc_new _ _
 have HG := Lib.hid (fun (W : World) (hb : Below V.heap.size V W) => (show W.heap[B]? = _ ∧ W.heap[B + 1]? = _ ∧ W.heap[B + 1 + 1]? = _ ∧ W.heap[B + 1 + 1 + 1]? = _ from ⟨(hb.block _ (by omega)).trans g0, (hb.block _ (by omega)).trans g1, (hb.block _ (by omega)).trans g2, (hb.block _ (by omega)).trans g3⟩))
 have HZ := Lib.hid hZ
 have HBV := Lib.hid (show Below w.heap.size w V by rw [hB]; exact hBV)
 have HVd := Lib.hid ((Below.refl V.heap.size V).drew)
 have HBd := Lib.hid (HBV.out.trans (HVd.out.mono HBV.out.size))
 have HS := Lib.hid (fun (W : World) (hb : Below V.heap.size V W) => (show W.cell? ⟨B, 4, none⟩ = some (.int .i64 n.r) ∧ W.cell? ⟨B + 1 + 1, j, none⟩ = some (.int .i64 (1024 * (j : Int))) from
  ⟨cell_of_row W _ 4 _ _ _ (HG.out W hb).1, by
   rw [cell_of_row W _ j _ _ _ (HG.out W hb).2.2.1]
   rcases (show j = 0 ∨ j = 1 ∨ j = 2 ∨ j = 3 by omega) with e | e | e | e <;> subst e <;> rfl⟩))
 have HBn := Lib.hid hB
 rw [hB]
 clear hz0 hz1 hz2 hV hB hBV g0 g1 g2 g3 hZ
 have hj0 : (0 : Int) ≤ (j : Int) := by omega
 have hj1 : (j : Int) < 4 := by omega
 have hjm : IntKind.i64.wrap (1024 * (j : Int) + m) = 1024 * (j : Int) + m := IntWalk.i64_in _ (by omega)
 go_cut [7, 8] from 19 to 76 (fun s7 s8 wx => ∃ (b7 : Nat) (px py pk : Int), s7 = .pointer (some ⟨b7, 0, none⟩) ∧ s8 = .int .i64 pk ∧ (-100000000 ≤ px ∧ px ≤ 100000000) ∧ (-100000000 ≤ py ∧ py ≤ 100000000) ∧ wx.heap[b7]? = some (.cells #[.int .i64 px, .int .i64 py] 48 (0, 0)) ∧ Below V.heap.size V wx)
 case first =>
  refine wp_region_held_drew (S := (fun W => W.cell? ⟨B, 4, none⟩ = some (.int .i64 n.r) ∧ W.cell? ⟨B + 1 + 1, j, none⟩ = some (.int .i64 (1024 * (j : Int))))) (by kernel_rfl) (HS.out _ HVd.out) (fun hHeld => ?_)
  refine wpAnyH_take (i := 0) (oi := ⟨some 20, _, _, _, _, _⟩) (v := ?h1u) rfl (by kernel_rfl) (by kernel_rfl) (by kernel_rfl) (fun _ _ _ h => h) (Or.inl ⟨by rfl, ?h1p⟩) hHeld ?h1q
  case h1p => (intro W hSw; (try dsimp only at hSw); (try obtain ⟨s1, s2⟩ := hSw); go_simp; try with_reducible rfl)
  try simp only [Act.put, zI, zO, zS]
  refine wpAnyH_take (i := 1) (oi := ⟨some 21, _, _, _, _, _⟩) (v := ?h2u) rfl (by kernel_rfl) (by kernel_rfl) (by kernel_rfl) (fun _ _ _ h => h) (Or.inl ⟨by rfl, ?h2p⟩) hHeld ?h2q
  case h2p => (intro W hSw; (try dsimp only at hSw); (try obtain ⟨s1, s2⟩ := hSw); go_simp; try with_reducible rfl)
  try simp only [Act.put, zI, zO, zS]
  refine wpAnyH_take (i := 2) (oi := ⟨some 22, _, _, _, _, _⟩) (v := ?h3u) rfl (by kernel_rfl) (by kernel_rfl) (by kernel_rfl) (fun _ _ _ h => h) (Or.inl ⟨by rfl, ?h3p⟩) hHeld ?h3q
  case h3p => (intro W hSw; (try dsimp only at hSw); (try obtain ⟨s1, s2⟩ := hSw); go_simp; try with_reducible rfl)
  try simp only [Act.put, zI, zO, zS]
  refine wpAnyH_take (i := 3) (oi := ⟨some 23, _, _, _, _, _⟩) (v := ?h4u) rfl (by kernel_rfl) (by kernel_rfl) (by kernel_rfl) (fun _ _ _ h => h) (Or.inl ⟨by rfl, ?h4p⟩) hHeld ?h4q
  case h4p => (intro W hSw; (try dsimp only at hSw); (try obtain ⟨s1, s2⟩ := hSw); go_simp; try with_reducible rfl)
  try simp only [Act.put, zI, zO, zS]
  refine wpAnyH_take (i := 4) (oi := ⟨some 24, _, _, _, _, _⟩) (v := ?h5u) rfl (by kernel_rfl) (by kernel_rfl) (by kernel_rfl) (fun _ _ _ h => h) (Or.inl ⟨by rfl, ?h5p⟩) hHeld ?h5q
  case h5p => (intro W hSw; (try dsimp only at hSw); (try obtain ⟨s1, s2⟩ := hSw); go_simp; try with_reducible rfl)
  try simp only [Act.put, zI, zO, zS]
  refine wpAnyH_take (i := 5) (oi := ⟨some 25, _, _, _, _, _⟩) (v := ?h6u) rfl (by kernel_rfl) (by kernel_rfl) (by kernel_rfl) (fun _ _ _ h => h) (Or.inl ⟨by rfl, ?h6p⟩) hHeld ?h6q
  case h6p => (intro W hSw; (try dsimp only at hSw); (try obtain ⟨s1, s2⟩ := hSw); go_simp; try with_reducible rfl)
  try simp only [Act.put, zI, zO, zS]
  refine wpAnyH_take (i := 6) (oi := ⟨some 26, _, _, _, _, _⟩) (v := ?h7u) rfl (by kernel_rfl) (by kernel_rfl) (by kernel_rfl) (fun _ _ _ h => h) (Or.inl ⟨by rfl, ?h7p⟩) hHeld ?h7q
  case h7p => (intro W hSw; (try dsimp only at hSw); (try obtain ⟨s1, s2⟩ := hSw); go_simp; try with_reducible rfl)
  try simp only [Act.put, zI, zO, zS]
  refine wpAnyH_take (i := 7) (oi := ⟨some 27, _, _, _, _, _⟩) (v := ?h8u) rfl (by kernel_rfl) (by kernel_rfl) (by kernel_rfl) (fun _ _ _ h => h) (Or.inl ⟨by rfl, ?h8p⟩) hHeld ?h8q
  case h8p => (intro W hSw; (try dsimp only at hSw); (try obtain ⟨s1, s2⟩ := hSw); go_simp; try with_reducible rfl)
  try simp only [Act.put, zI, zO, zS]
  refine wpAnyH_take (i := 8) (oi := ⟨some 28, _, _, _, _, _⟩) (v := ?h9u) rfl (by kernel_rfl) (by kernel_rfl) (by kernel_rfl) (fun _ _ _ h => h) (Or.inl ⟨by rfl, ?h9p⟩) hHeld ?h9q
  case h9p => (intro W hSw; (try dsimp only at hSw); (try obtain ⟨s1, s2⟩ := hSw); go_simp; try with_reducible rfl)
  try simp only [Act.put, zI, zO, zS]
  refine wpAnyH_take (i := 9) (oi := ⟨some 29, _, _, _, _, _⟩) (v := ?h10u) rfl (by kernel_rfl) (by kernel_rfl) (by kernel_rfl) (fun _ _ _ h => h) (Or.inl ⟨by rfl, ?h10p⟩) hHeld ?h10q
  case h10p => (intro W hSw; (try dsimp only at hSw); (try obtain ⟨s1, s2⟩ := hSw); go_simp; try with_reducible rfl)
  try simp only [Act.put, zI, zO, zS]
  refine wpAnyH_ready (rs := [10, 14]) (by kernel_rfl) (by simp) ?_
  refine (AllReadyH.cons (o := ⟨some 30, _, _, _, _, _⟩) rfl (fun K hK => ?_) (AllReadyH.cons (o := ⟨some 7, _, _, _, _, _⟩) rfl (fun K hK => ?_) AllReadyH.nil))
  ·go_simp
   go_at_call 119
   (with_reducible refine (HV.out _ V.drew HBd.out).mono ?_)
   rintro e w1 ⟨px, py, pk, rfl, x0, x1, y0, y1, hb1⟩
   have HB1 := Lib.hid (HBd.out.trans (hb1.mono HBd.out.size))
   have HBV1 := Lib.hid (HVd.out.trans (hb1.mono (by have := HVd.out.size; have := HZ.out; omega)))
   have HX := Lib.hid (show (-100000000 ≤ px ∧ px ≤ 100000000) ∧ (-100000000 ≤ py ∧ py ≤ 100000000) from ⟨⟨x0, x1⟩, y0, y1⟩)
   clear hb1 x0 x1 y0 y1
   refine hK.out _ _ (HS.out _ HBV1.out) (fun hHeld => ?_)
   clear hK K
   try simp only [Act.put, zI, zO, zS]
   refine wpAnyH_take (i := 11) (oi := ⟨some 19, _, _, _, _, _⟩) (v := ?h11u) rfl (by kernel_rfl) (by kernel_rfl) (by kernel_rfl) (fun _ _ _ h => h) (Or.inl ⟨by rfl, ?h11p⟩) hHeld ?h11q
   case h11p => (intro W hSw; (try dsimp only at hSw); (try obtain ⟨s1, s2⟩ := hSw); go_simp; try with_reducible rfl)
   try simp only [Act.put, zI, zO, zS]
   refine wpAnyH_take (i := 12) (oi := ⟨some 31, _, _, _, _, _⟩) (v := ?h12u) rfl (by kernel_rfl) (by kernel_rfl) (by kernel_rfl) (fun _ _ _ h => h) (Or.inl ⟨by rfl, ?h12p⟩) hHeld ?h12q
   case h12p => (intro W hSw; (try dsimp only at hSw); (try obtain ⟨s1, s2⟩ := hSw); go_simp; try with_reducible rfl)
   try simp only [Act.put, zI, zO, zS]
   refine wpAnyH_take (i := 13) (oi := ⟨some 32, _, _, _, _, _⟩) (v := ?h13u) rfl (by kernel_rfl) (by kernel_rfl) (by kernel_rfl) (fun _ _ _ h => h) (Or.inl ⟨by rfl, ?h13p⟩) hHeld ?h13q
   case h13p => (intro W hSw; (try dsimp only at hSw); (try obtain ⟨s1, s2⟩ := hSw); go_simp; try with_reducible rfl)
   try simp only [Act.put, zI, zO, zS]
   refine wpAnyH_ready (rs := [14]) (by kernel_rfl) (by simp) ?_
   refine (AllReadyH.cons (o := ⟨some 7, _, _, _, _, _⟩) rfl (fun K hK => ?_) AllReadyH.nil)
   go_simp
   obtain ⟨Wa, hWa⟩ : ∃ W, w1.alloc (.cells #[.int .i64 0, .int .i64 0] 48) = W := ⟨_, rfl⟩
   rw [hWa]
   have HVa : Hid (Below V.heap.size V Wa) := Lib.hid (by rw [← hWa]; exact HBV1.out.alloc (HBV1.out.size) _)
   have HAa : Hid (Wa.heap[w1.heap.size]? = some (.cells #[.int .i64 0, .int .i64 0] 48 (0, 0))) := Lib.hid (by rw [← hWa]; exact heap_alloc_new _ _)
   have HZa : Hid (Wa.heap.size = w1.heap.size + 1) := Lib.hid (by rw [← hWa, size_al])
   have HBa : Hid (Below w.heap.size w Wa) := Lib.hid (HBV.out.trans (HVa.out.mono HBV.out.size))
   clear hWa
   have e0 : Wa.cell? ⟨w1.heap.size, 0, none⟩ = some (.int .i64 0) := cell_of_row Wa _ 0 _ 48 (0, 0) HAa.out
   have e1 : Wa.cell? ⟨w1.heap.size, 0 + 1, none⟩ = some (.int .i64 0) := cell_of_row Wa _ 1 _ 48 (0, 0) HAa.out
   have f0 : Wa.frozen? ⟨w1.heap.size, 0, none⟩ = false := frozen_of_row Wa _ 0 _ 48 HAa.out
   have f1 : Wa.frozen? ⟨w1.heap.size, 0 + 1, none⟩ = false := frozen_of_row Wa _ 1 _ 48 HAa.out
   refine hK.out _ _ (HS.out _ HVa.out) (fun hHeld => ?_)
   clear hK K
   try simp only [Act.put, zI, zO, zS]
   refine wpAnyH_ready (rs := [15]) (by kernel_rfl) (by simp) ?_
   refine (AllReadyH.cons (o := ⟨none, _, _, _, _, _⟩) rfl (fun K hK => ?_) AllReadyH.nil)
   go_simp
   have HSt := Lib.hid ((HVa.out.setCell (p := ⟨w1.heap.size, 0, none⟩) HBV1.out.size (.int .i64 px)).setCell (p := ⟨w1.heap.size, 1, none⟩) HBV1.out.size (.int .i64 py))
   refine hK.out _ _ (HS.out _ HSt.out) (fun hHeld => ?_)
   clear hK K
   try simp only [Act.put, zI, zO, zS]
   refine wpAnyH_take (i := 16) (oi := ⟨some 8, _, _, _, _, _⟩) (v := ?h14u) rfl (by kernel_rfl) (by kernel_rfl) (by kernel_rfl) (fun _ _ _ h => h) (Or.inl ⟨by rfl, ?h14p⟩) hHeld ?h14q
   case h14p => (intro W hSw; (try dsimp only at hSw); (try obtain ⟨s1, s2⟩ := hSw); go_simp; try with_reducible rfl)
   try simp only [Act.put, zI, zO, zS]
   refine wpAnyH_done (by kernel_rfl) ?_ _
   have hrow := set_pt HAa.out (.int .i64 px) (.int .i64 py)
   go_wp2_with fail
   go_meet
   case rel => exact ⟨_, px, py, pk, rfl, rfl, HX.out.1, HX.out.2, hrow, HSt.out⟩
  ·go_simp
   obtain ⟨Wa, hWa⟩ : ∃ W, (V.alloc (.cells #[.int .i64 0, .int .i64 0] 48)).drew = W := ⟨_, rfl⟩
   rw [hWa]
   have HVa : Hid (Below V.heap.size V Wa) := Lib.hid (by rw [← hWa]; exact ((Below.refl V.heap.size V).alloc (Nat.le_refl _) _).drew)
   have HAa : Hid (Wa.heap[V.heap.size]? = some (.cells #[.int .i64 0, .int .i64 0] 48 (0, 0))) := Lib.hid (by rw [← hWa]; exact heap_alloc_new V _)
   have HZa : Hid (Wa.heap.size = V.heap.size + 1) := Lib.hid (by rw [← hWa]; exact size_al V _)
   have HBa : Hid (Below w.heap.size w Wa) := Lib.hid (HBV.out.trans (HVa.out.mono HBV.out.size))
   clear hWa
   refine hK.out _ _ (HS.out _ HVa.out) (fun hHeld => ?_)
   clear hK K
   try simp only [Act.put, zI, zO, zS]
   refine wpAnyH_ready (rs := [10]) (by kernel_rfl) (by simp) ?_
   refine (AllReadyH.cons (o := ⟨some 30, _, _, _, _, _⟩) rfl (fun K hK => ?_) AllReadyH.nil)
   go_simp
   go_at_call 119
   (with_reducible refine (HV.out _ Wa HBa.out).mono ?_)
   rintro e w1 ⟨px, py, pk, rfl, x0, x1, y0, y1, hb1⟩
   have HB1 := Lib.hid (HBa.out.trans (hb1.mono HBa.out.size))
   have HBV1 := Lib.hid (HVa.out.trans (hb1.mono (by have := HVa.out.size; have := HZ.out; omega)))
   have HX := Lib.hid (show (-100000000 ≤ px ∧ px ≤ 100000000) ∧ (-100000000 ≤ py ∧ py ≤ 100000000) from ⟨⟨x0, x1⟩, y0, y1⟩)
   have HA1 := Lib.hid ((hb1.block V.heap.size (by rw [HZa.out]; omega)).trans HAa.out)
   clear hb1 x0 x1 y0 y1
   have e0 : w1.cell? ⟨V.heap.size, 0, none⟩ = some (.int .i64 0) := cell_of_row w1 _ 0 _ 48 (0, 0) HA1.out
   have e1 : w1.cell? ⟨V.heap.size, 0 + 1, none⟩ = some (.int .i64 0) := cell_of_row w1 _ 1 _ 48 (0, 0) HA1.out
   have f0 : w1.frozen? ⟨V.heap.size, 0, none⟩ = false := frozen_of_row w1 _ 0 _ 48 HA1.out
   have f1 : w1.frozen? ⟨V.heap.size, 0 + 1, none⟩ = false := frozen_of_row w1 _ 1 _ 48 HA1.out
   refine hK.out _ _ (HS.out _ HBV1.out) (fun hHeld => ?_)
   clear hK K
   try simp only [Act.put, zI, zO, zS]
   refine wpAnyH_take (i := 11) (oi := ⟨some 19, _, _, _, _, _⟩) (v := ?h15u) rfl (by kernel_rfl) (by kernel_rfl) (by kernel_rfl) (fun _ _ _ h => h) (Or.inl ⟨by rfl, ?h15p⟩) hHeld ?h15q
   case h15p => (intro W hSw; (try dsimp only at hSw); (try obtain ⟨s1, s2⟩ := hSw); go_simp; try with_reducible rfl)
   try simp only [Act.put, zI, zO, zS]
   refine wpAnyH_take (i := 12) (oi := ⟨some 31, _, _, _, _, _⟩) (v := ?h16u) rfl (by kernel_rfl) (by kernel_rfl) (by kernel_rfl) (fun _ _ _ h => h) (Or.inl ⟨by rfl, ?h16p⟩) hHeld ?h16q
   case h16p => (intro W hSw; (try dsimp only at hSw); (try obtain ⟨s1, s2⟩ := hSw); go_simp; try with_reducible rfl)
   try simp only [Act.put, zI, zO, zS]
   refine wpAnyH_take (i := 13) (oi := ⟨some 32, _, _, _, _, _⟩) (v := ?h17u) rfl (by kernel_rfl) (by kernel_rfl) (by kernel_rfl) (fun _ _ _ h => h) (Or.inl ⟨by rfl, ?h17p⟩) hHeld ?h17q
   case h17p => (intro W hSw; (try dsimp only at hSw); (try obtain ⟨s1, s2⟩ := hSw); go_simp; try with_reducible rfl)
   try simp only [Act.put, zI, zO, zS]
   refine wpAnyH_ready (rs := [15]) (by kernel_rfl) (by simp) ?_
   refine (AllReadyH.cons (o := ⟨none, _, _, _, _, _⟩) rfl (fun K hK => ?_) AllReadyH.nil)
   go_simp
   have HSt := Lib.hid ((HBV1.out.setCell (p := ⟨V.heap.size, 0, none⟩) (Nat.le_refl _) (.int .i64 px)).setCell (p := ⟨V.heap.size, 1, none⟩) (Nat.le_refl _) (.int .i64 py))
   refine hK.out _ _ (HS.out _ HSt.out) (fun hHeld => ?_)
   clear hK K
   try simp only [Act.put, zI, zO, zS]
   refine wpAnyH_take (i := 16) (oi := ⟨some 8, _, _, _, _, _⟩) (v := ?h18u) rfl (by kernel_rfl) (by kernel_rfl) (by kernel_rfl) (fun _ _ _ h => h) (Or.inl ⟨by rfl, ?h18p⟩) hHeld ?h18q
   case h18p => (intro W hSw; (try dsimp only at hSw); (try obtain ⟨s1, s2⟩ := hSw); go_simp; try with_reducible rfl)
   try simp only [Act.put, zI, zO, zS]
   refine wpAnyH_done (by kernel_rfl) ?_ _
   have hrow := set_pt HA1.out (.int .i64 px) (.int .i64 py)
   go_wp2_with fail
   go_meet
   case rel => exact ⟨_, px, py, pk, rfl, rfl, HX.out.1, HX.out.2, hrow, HSt.out⟩
 case rest =>
  obtain ⟨b7, px, py, pk, rfl, rfl, hx, hy, h7, hbc⟩ := hcut
  have HX := Lib.hid (And.intro hx hy)
  have HBC := Lib.hid hbc
  have HAd := Lib.hid (fun W => Add_any n.x n.y px py W ⟨by have := HOk.out.x0; omega, by have := HOk.out.x1; omega⟩ ⟨by have := HOk.out.y0; omega, by have := HOk.out.y1; omega⟩ ⟨by omega, by omega⟩ ⟨by omega, by omega⟩)
  obtain ⟨g0, g1, g2, g3⟩ := HG.out wc hbc
  have c1 : wc.cell? ⟨B, 1, none⟩ = some (.int .i64 n.x) := cell_of_row wc _ 1 _ _ _ g0
  have c2 : wc.cell? ⟨B, 1 + 1, none⟩ = some (.int .i64 n.y) := cell_of_row wc _ 2 _ _ _ g0
  have d0 : wc.cell? ⟨b7, 0, none⟩ = some (.int .i64 px) := cell_of_row wc _ 0 _ _ _ h7
  have d1 : wc.cell? ⟨b7, 0 + 1, none⟩ = some (.int .i64 py) := cell_of_row wc _ 1 _ _ _ h7
  clear g0 g1 g2 g3 h7 hbc hx hy hj0 hj1 hjm hm0 hj4 m1 m2
  go_upto_region 5 with (go_at_call 120; go_loud (refine (HAd.out _).mono ?_; rintro e w2 ⟨rfl, hb2⟩; have HB2 := Lib.hid (HBC.out.trans (hb2.mono HBC.out.size)); clear hb2))
  obtain ⟨x, hx⟩ : ∃ x, n.x + px = x := ⟨_, rfl⟩
  obtain ⟨y, hy⟩ : ∃ y, n.y + py = y := ⟨_, rfl⟩
  rw [hx, hy]
  obtain ⟨W3, hW3⟩ : ∃ W, w2.alloc (.cells #[.int .i64 x, .int .i64 y] 48) = W := ⟨_, rfl⟩
  have hb3 : Below V.heap.size V W3 := by rw [← hW3]; exact HB2.out.alloc HB2.out.size _
  have hr3 : W3.heap[w2.heap.size]? = some (.cells #[.int .i64 x, .int .i64 y] 48 (0, 0)) := by rw [← hW3]; exact heap_alloc_new _ _
  rw [hW3]
  have HB3 := Lib.hid hb3
  have HR3 := Lib.hid hr3
  clear hW3 c1 c2 d0 d1 hb3 hr3 hx hy
  by_cases hpk : pk = 0
  case neg =>
   have epk : (pk == 0) = false := by simp [hpk]
   clear hpk
   obtain ⟨r0, r1, r2, r3⟩ := HG.out W3 HB3.out
   have R0 := Lib.hid r0
   have R1 := Lib.hid r1
   have R3 := Lib.hid r3
   clear r0 r1 r2 r3
   have HBW := Lib.hid (HBV.out.trans ((HB3.out).mono HBV.out.size))
   by_cases hk12 : k / 4096 % 2 = 1
   ·have mk : (bits .and .i64 (k / 4096) 1 == 1) = true := by rw [m3]; simp [hk12]
    clear hk12 m3
    have hhw : IntKind.i64.wrap (n.h + n.b) = n.h + n.b := IntWalk.i64_in _ (by have := HOk.out.h0; have := HOk.out.h1; have := HOk.out.b0; have := HOk.out.b1; omega)
    obtain ⟨hv, hhv⟩ : ∃ v, (if n.h + n.b < 0 then 0 else if 60000 < n.h + n.b then 60000 else n.h + n.b) = v := ⟨_, rfl⟩
    have HBt := Lib.hid (fun (W : World) => Between_any (n.h + n.b) W)
    rw [hhv] at HBt
    have hvb : 0 ≤ hv ∧ hv ≤ 60000 ∧ max (hv - n.h) (n.h - hv) ≤ n.b := by
     have := HOk.out.h0; have := HOk.out.h1; have := HOk.out.b0
     rw [← hhv]
     split
     ·omega
     ·split <;> omega
    have HAc : Hid (AcOk ⟨n, n.x, n.y, hv⟩) := Lib.hid ⟨HOk.out, HOk.out.x0, HOk.out.x1, HOk.out.y0, HOk.out.y1, hvb.1, hvb.2.1, by show sqI n.x n.y n.x n.y ≤ n.r * n.r; unfold sqI; rw [Int.sub_self, Int.sub_self]; simpa using sq_pos n.r, hvb.2.2⟩
    clear hhv hvb
    have q3 : W3.cell? ⟨B, 3, none⟩ = some (.int .i64 n.h) := cell_of_row W3 _ 3 _ _ _ R0.out
    have q5 : W3.cell? ⟨B, 5, none⟩ = some (.int .i64 n.b) := cell_of_row W3 _ 5 _ _ _ R0.out
    have q8 : W3.cell? ⟨B + 1 + 1 + 1, 8, none⟩ = some (.int .i64 n.h) := cell_of_row W3 _ 8 _ _ _ R3.out
    have z8 : W3.frozen? ⟨B + 1 + 1 + 1, 8, none⟩ = false := frozen_of_row W3 _ 8 _ _ R3.out
    go_upto_region 10 with (go_at_call 122; go_loud (refine (HBt.out _).mono ?_; rintro e w6 ⟨rfl, hw6⟩; obtain rfl := hw6.symm))
    have hr9 := heap_setCell_same W3 _ 8 _ _ (.int .i64 hv) R3.out
    have hb9 : Below w.heap.size w (W3.setCell ⟨B + 1 + 1 + 1, 8, none⟩ (.int .i64 hv)) := HBW.out.setCell (show w.heap.size ≤ B + 1 + 1 + 1 by rw [HBn.out]; omega) _
    have hs9 := (Below.heap_setCell W3 ⟨B + 1 + 1 + 1, 8, none⟩ (.int .i64 hv) (B + 1) (by simp)).trans R1.out
    obtain ⟨W9, hW9⟩ : ∃ X, W3.setCell ⟨B + 1 + 1 + 1, 8, none⟩ (.int .i64 hv) = X := ⟨_, rfl⟩
    rw [hW9] at hr9 hb9 hs9 ⊢
    have HB9 := Lib.hid hb9
    have HS9 := Lib.hid hs9
    have p0 : W9.cell? ⟨B + 1 + 1 + 1, 0, none⟩ = some (.int .i64 (n.t)) := cell_of_row W9 _ 0 _ _ _ hr9
    have p1 : W9.cell? ⟨B + 1 + 1 + 1, 1, none⟩ = some (.int .i64 (n.x)) := cell_of_row W9 _ 1 _ _ _ hr9
    have p2 : W9.cell? ⟨B + 1 + 1 + 1, 2, none⟩ = some (.int .i64 (n.y)) := cell_of_row W9 _ 2 _ _ _ hr9
    have p3 : W9.cell? ⟨B + 1 + 1 + 1, 3, none⟩ = some (.int .i64 (n.h)) := cell_of_row W9 _ 3 _ _ _ hr9
    have p4 : W9.cell? ⟨B + 1 + 1 + 1, 4, none⟩ = some (.int .i64 (n.r)) := cell_of_row W9 _ 4 _ _ _ hr9
    have p5 : W9.cell? ⟨B + 1 + 1 + 1, 5, none⟩ = some (.int .i64 (n.b)) := cell_of_row W9 _ 5 _ _ _ hr9
    have p6 : W9.cell? ⟨B + 1 + 1 + 1, 6, none⟩ = some (.int .i64 (n.x)) := cell_of_row W9 _ 6 _ _ _ hr9
    have p7 : W9.cell? ⟨B + 1 + 1 + 1, 7, none⟩ = some (.int .i64 (n.y)) := cell_of_row W9 _ 7 _ _ _ hr9
    have p8 : W9.cell? ⟨B + 1 + 1 + 1, 8, none⟩ = some (.int .i64 (hv)) := cell_of_row W9 _ 8 _ _ _ hr9
    have o0 : W9.cell? ⟨B + 1, 0, none⟩ = some (.int .i64 0) := cell_of_row W9 _ 0 _ _ _ hs9
    have z0 : W9.frozen? ⟨B + 1, 0, none⟩ = false := frozen_of_row W9 _ 0 _ _ hs9
    have o1 : W9.cell? ⟨B + 1, 1, none⟩ = some (.int .i64 0) := cell_of_row W9 _ 1 _ _ _ hs9
    have z1 : W9.frozen? ⟨B + 1, 1, none⟩ = false := frozen_of_row W9 _ 1 _ _ hs9
    have o2 : W9.cell? ⟨B + 1, 2, none⟩ = some (.int .i64 0) := cell_of_row W9 _ 2 _ _ _ hs9
    have z2 : W9.frozen? ⟨B + 1, 2, none⟩ = false := frozen_of_row W9 _ 2 _ _ hs9
    have o3 : W9.cell? ⟨B + 1, 3, none⟩ = some (.int .i64 0) := cell_of_row W9 _ 3 _ _ _ hs9
    have z3 : W9.frozen? ⟨B + 1, 3, none⟩ = false := frozen_of_row W9 _ 3 _ _ hs9
    have o4 : W9.cell? ⟨B + 1, 4, none⟩ = some (.int .i64 0) := cell_of_row W9 _ 4 _ _ _ hs9
    have z4 : W9.frozen? ⟨B + 1, 4, none⟩ = false := frozen_of_row W9 _ 4 _ _ hs9
    have o5 : W9.cell? ⟨B + 1, 5, none⟩ = some (.int .i64 0) := cell_of_row W9 _ 5 _ _ _ hs9
    have z5 : W9.frozen? ⟨B + 1, 5, none⟩ = false := frozen_of_row W9 _ 5 _ _ hs9
    have o6 : W9.cell? ⟨B + 1, 6, none⟩ = some (.int .i64 0) := cell_of_row W9 _ 6 _ _ _ hs9
    have z6 : W9.frozen? ⟨B + 1, 6, none⟩ = false := frozen_of_row W9 _ 6 _ _ hs9
    have o7 : W9.cell? ⟨B + 1, 7, none⟩ = some (.int .i64 0) := cell_of_row W9 _ 7 _ _ _ hs9
    have z7 : W9.frozen? ⟨B + 1, 7, none⟩ = false := frozen_of_row W9 _ 7 _ _ hs9
    have o8 : W9.cell? ⟨B + 1, 8, none⟩ = some (.int .i64 0) := cell_of_row W9 _ 8 _ _ _ hs9
    have z8 : W9.frozen? ⟨B + 1, 8, none⟩ = false := frozen_of_row W9 _ 8 _ _ hs9
    clear hW9 hr9 hb9 hs9
    go_wp2_with fail
    exact put_end HS9.out HB9.out (by rw [HBn.out]; omega) HAc.out rfl rfl
   ·have mk : (bits .and .i64 (k / 4096) 1 == 1) = false := by rw [m3]; simp [hk12]
    clear hk12 m3
    have hhw : IntKind.i64.wrap (n.h - n.b) = n.h - n.b := IntWalk.i64_in _ (by have := HOk.out.h0; have := HOk.out.h1; have := HOk.out.b0; have := HOk.out.b1; omega)
    obtain ⟨hv, hhv⟩ : ∃ v, (if n.h - n.b < 0 then 0 else if 60000 < n.h - n.b then 60000 else n.h - n.b) = v := ⟨_, rfl⟩
    have HBt := Lib.hid (fun (W : World) => Between_any (n.h - n.b) W)
    rw [hhv] at HBt
    have hvb : 0 ≤ hv ∧ hv ≤ 60000 ∧ max (hv - n.h) (n.h - hv) ≤ n.b := by
     have := HOk.out.h0; have := HOk.out.h1; have := HOk.out.b0
     rw [← hhv]
     split
     ·omega
     ·split <;> omega
    have HAc : Hid (AcOk ⟨n, n.x, n.y, hv⟩) := Lib.hid ⟨HOk.out, HOk.out.x0, HOk.out.x1, HOk.out.y0, HOk.out.y1, hvb.1, hvb.2.1, by show sqI n.x n.y n.x n.y ≤ n.r * n.r; unfold sqI; rw [Int.sub_self, Int.sub_self]; simpa using sq_pos n.r, hvb.2.2⟩
    clear hhv hvb
    have q3 : W3.cell? ⟨B, 3, none⟩ = some (.int .i64 n.h) := cell_of_row W3 _ 3 _ _ _ R0.out
    have q5 : W3.cell? ⟨B, 5, none⟩ = some (.int .i64 n.b) := cell_of_row W3 _ 5 _ _ _ R0.out
    have q8 : W3.cell? ⟨B + 1 + 1 + 1, 8, none⟩ = some (.int .i64 n.h) := cell_of_row W3 _ 8 _ _ _ R3.out
    have z8 : W3.frozen? ⟨B + 1 + 1 + 1, 8, none⟩ = false := frozen_of_row W3 _ 8 _ _ R3.out
    go_upto_region 10 with (go_at_call 122; go_loud (refine (HBt.out _).mono ?_; rintro e w6 ⟨rfl, hw6⟩; obtain rfl := hw6.symm))
    have hr9 := heap_setCell_same W3 _ 8 _ _ (.int .i64 hv) R3.out
    have hb9 : Below w.heap.size w (W3.setCell ⟨B + 1 + 1 + 1, 8, none⟩ (.int .i64 hv)) := HBW.out.setCell (show w.heap.size ≤ B + 1 + 1 + 1 by rw [HBn.out]; omega) _
    have hs9 := (Below.heap_setCell W3 ⟨B + 1 + 1 + 1, 8, none⟩ (.int .i64 hv) (B + 1) (by simp)).trans R1.out
    obtain ⟨W9, hW9⟩ : ∃ X, W3.setCell ⟨B + 1 + 1 + 1, 8, none⟩ (.int .i64 hv) = X := ⟨_, rfl⟩
    rw [hW9] at hr9 hb9 hs9 ⊢
    have HB9 := Lib.hid hb9
    have HS9 := Lib.hid hs9
    have p0 : W9.cell? ⟨B + 1 + 1 + 1, 0, none⟩ = some (.int .i64 (n.t)) := cell_of_row W9 _ 0 _ _ _ hr9
    have p1 : W9.cell? ⟨B + 1 + 1 + 1, 1, none⟩ = some (.int .i64 (n.x)) := cell_of_row W9 _ 1 _ _ _ hr9
    have p2 : W9.cell? ⟨B + 1 + 1 + 1, 2, none⟩ = some (.int .i64 (n.y)) := cell_of_row W9 _ 2 _ _ _ hr9
    have p3 : W9.cell? ⟨B + 1 + 1 + 1, 3, none⟩ = some (.int .i64 (n.h)) := cell_of_row W9 _ 3 _ _ _ hr9
    have p4 : W9.cell? ⟨B + 1 + 1 + 1, 4, none⟩ = some (.int .i64 (n.r)) := cell_of_row W9 _ 4 _ _ _ hr9
    have p5 : W9.cell? ⟨B + 1 + 1 + 1, 5, none⟩ = some (.int .i64 (n.b)) := cell_of_row W9 _ 5 _ _ _ hr9
    have p6 : W9.cell? ⟨B + 1 + 1 + 1, 6, none⟩ = some (.int .i64 (n.x)) := cell_of_row W9 _ 6 _ _ _ hr9
    have p7 : W9.cell? ⟨B + 1 + 1 + 1, 7, none⟩ = some (.int .i64 (n.y)) := cell_of_row W9 _ 7 _ _ _ hr9
    have p8 : W9.cell? ⟨B + 1 + 1 + 1, 8, none⟩ = some (.int .i64 (hv)) := cell_of_row W9 _ 8 _ _ _ hr9
    have o0 : W9.cell? ⟨B + 1, 0, none⟩ = some (.int .i64 0) := cell_of_row W9 _ 0 _ _ _ hs9
    have z0 : W9.frozen? ⟨B + 1, 0, none⟩ = false := frozen_of_row W9 _ 0 _ _ hs9
    have o1 : W9.cell? ⟨B + 1, 1, none⟩ = some (.int .i64 0) := cell_of_row W9 _ 1 _ _ _ hs9
    have z1 : W9.frozen? ⟨B + 1, 1, none⟩ = false := frozen_of_row W9 _ 1 _ _ hs9
    have o2 : W9.cell? ⟨B + 1, 2, none⟩ = some (.int .i64 0) := cell_of_row W9 _ 2 _ _ _ hs9
    have z2 : W9.frozen? ⟨B + 1, 2, none⟩ = false := frozen_of_row W9 _ 2 _ _ hs9
    have o3 : W9.cell? ⟨B + 1, 3, none⟩ = some (.int .i64 0) := cell_of_row W9 _ 3 _ _ _ hs9
    have z3 : W9.frozen? ⟨B + 1, 3, none⟩ = false := frozen_of_row W9 _ 3 _ _ hs9
    have o4 : W9.cell? ⟨B + 1, 4, none⟩ = some (.int .i64 0) := cell_of_row W9 _ 4 _ _ _ hs9
    have z4 : W9.frozen? ⟨B + 1, 4, none⟩ = false := frozen_of_row W9 _ 4 _ _ hs9
    have o5 : W9.cell? ⟨B + 1, 5, none⟩ = some (.int .i64 0) := cell_of_row W9 _ 5 _ _ _ hs9
    have z5 : W9.frozen? ⟨B + 1, 5, none⟩ = false := frozen_of_row W9 _ 5 _ _ hs9
    have o6 : W9.cell? ⟨B + 1, 6, none⟩ = some (.int .i64 0) := cell_of_row W9 _ 6 _ _ _ hs9
    have z6 : W9.frozen? ⟨B + 1, 6, none⟩ = false := frozen_of_row W9 _ 6 _ _ hs9
    have o7 : W9.cell? ⟨B + 1, 7, none⟩ = some (.int .i64 0) := cell_of_row W9 _ 7 _ _ _ hs9
    have z7 : W9.frozen? ⟨B + 1, 7, none⟩ = false := frozen_of_row W9 _ 7 _ _ hs9
    have o8 : W9.cell? ⟨B + 1, 8, none⟩ = some (.int .i64 0) := cell_of_row W9 _ 8 _ _ _ hs9
    have z8 : W9.frozen? ⟨B + 1, 8, none⟩ = false := frozen_of_row W9 _ 8 _ _ hs9
    clear hW9 hr9 hb9 hs9
    go_wp2_with fail
    exact put_end HS9.out HB9.out (by rw [HBn.out]; omega) HAc.out rfl rfl
  subst hpk
  have HPc := Lib.hid (PCheck_any x y W3)
  have c0 : W3.cell? ⟨w2.heap.size, 0, none⟩ = some (.int .i64 x) := cell_of_row W3 _ 0 _ _ _ HR3.out
  have c1 : W3.cell? ⟨w2.heap.size, 0 + 1, none⟩ = some (.int .i64 y) := cell_of_row W3 _ 1 _ _ _ HR3.out
  have A76 : Hid (∀ (w4 : World) (hb4 : Below W3.heap.size W3 w4), Below V.heap.size V w4 ∧ w4.heap[w2.heap.size]? = some (.cells #[.int .i64 x, .int .i64 y] 48 (0, 0))) := Lib.hid (fun w4 hb4 => ⟨HB3.out.trans (hb4.mono HB3.out.size), (hb4.block _ (Array.getElem?_eq_some_iff.1 HR3.out).1).trans HR3.out⟩)
  rcases ptE_cases x y with hpt | hpt
  case inr =>
   rw [hpt] at HPc
   clear hpt
   go_upto_region 7 with (go_at_call 76; go_loud (refine HPc.out.mono ?_; rintro e w4 ⟨rfl, hb4⟩; obtain ⟨hv4, hr4⟩ := A76.out w4 hb4; obtain ⟨r0, _, _, _⟩ := HG.out w4 hv4; have e1 : w4.cell? ⟨B, 1, none⟩ = some (.int .i64 n.x) := cell_of_row w4 _ 1 _ _ _ r0; have e2 : w4.cell? ⟨B, 1 + 1, none⟩ = some (.int .i64 n.y) := cell_of_row w4 _ 2 _ _ _ r0; have e4 : w4.cell? ⟨B, 4, none⟩ = some (.int .i64 n.r) := cell_of_row w4 _ 4 _ _ _ r0; have s0 : w4.cell? ⟨w2.heap.size, 0, none⟩ = some (.int .i64 x) := cell_of_row w4 _ 0 _ _ _ hr4; have s1 : w4.cell? ⟨w2.heap.size, 0 + 1, none⟩ = some (.int .i64 y) := cell_of_row w4 _ 1 _ _ _ hr4; have HV4 := Lib.hid hv4; have HR4 := Lib.hid hr4; clear r0 hv4 hr4 hb4))
   clear c0 c1 e1 e2 e4 s0 s1
   obtain ⟨r0, r1, r2, r3⟩ := HG.out w4 HV4.out
   have R0 := Lib.hid r0
   have R1 := Lib.hid r1
   have R3 := Lib.hid r3
   clear r0 r1 r2 r3
   have HBW := Lib.hid (HBV.out.trans ((HV4.out).mono HBV.out.size))
   by_cases hk12 : k / 4096 % 2 = 1
   ·have mk : (bits .and .i64 (k / 4096) 1 == 1) = true := by rw [m3]; simp [hk12]
    clear hk12 m3
    have hhw : IntKind.i64.wrap (n.h + n.b) = n.h + n.b := IntWalk.i64_in _ (by have := HOk.out.h0; have := HOk.out.h1; have := HOk.out.b0; have := HOk.out.b1; omega)
    obtain ⟨hv, hhv⟩ : ∃ v, (if n.h + n.b < 0 then 0 else if 60000 < n.h + n.b then 60000 else n.h + n.b) = v := ⟨_, rfl⟩
    have HBt := Lib.hid (fun (W : World) => Between_any (n.h + n.b) W)
    rw [hhv] at HBt
    have hvb : 0 ≤ hv ∧ hv ≤ 60000 ∧ max (hv - n.h) (n.h - hv) ≤ n.b := by
     have := HOk.out.h0; have := HOk.out.h1; have := HOk.out.b0
     rw [← hhv]
     split
     ·omega
     ·split <;> omega
    have HAc : Hid (AcOk ⟨n, n.x, n.y, hv⟩) := Lib.hid ⟨HOk.out, HOk.out.x0, HOk.out.x1, HOk.out.y0, HOk.out.y1, hvb.1, hvb.2.1, by show sqI n.x n.y n.x n.y ≤ n.r * n.r; unfold sqI; rw [Int.sub_self, Int.sub_self]; simpa using sq_pos n.r, hvb.2.2⟩
    clear hhv hvb
    have q3 : w4.cell? ⟨B, 3, none⟩ = some (.int .i64 n.h) := cell_of_row w4 _ 3 _ _ _ R0.out
    have q5 : w4.cell? ⟨B, 5, none⟩ = some (.int .i64 n.b) := cell_of_row w4 _ 5 _ _ _ R0.out
    have q8 : w4.cell? ⟨B + 1 + 1 + 1, 8, none⟩ = some (.int .i64 n.h) := cell_of_row w4 _ 8 _ _ _ R3.out
    have z8 : w4.frozen? ⟨B + 1 + 1 + 1, 8, none⟩ = false := frozen_of_row w4 _ 8 _ _ R3.out
    go_upto_region 10 with (go_at_call 122; go_loud (refine (HBt.out _).mono ?_; rintro e w6 ⟨rfl, hw6⟩; obtain rfl := hw6.symm))
    have hr9 := heap_setCell_same w4 _ 8 _ _ (.int .i64 hv) R3.out
    have hb9 : Below w.heap.size w (w4.setCell ⟨B + 1 + 1 + 1, 8, none⟩ (.int .i64 hv)) := HBW.out.setCell (show w.heap.size ≤ B + 1 + 1 + 1 by rw [HBn.out]; omega) _
    have hs9 := (Below.heap_setCell w4 ⟨B + 1 + 1 + 1, 8, none⟩ (.int .i64 hv) (B + 1) (by simp)).trans R1.out
    obtain ⟨W9, hW9⟩ : ∃ X, w4.setCell ⟨B + 1 + 1 + 1, 8, none⟩ (.int .i64 hv) = X := ⟨_, rfl⟩
    rw [hW9] at hr9 hb9 hs9 ⊢
    have HB9 := Lib.hid hb9
    have HS9 := Lib.hid hs9
    have p0 : W9.cell? ⟨B + 1 + 1 + 1, 0, none⟩ = some (.int .i64 (n.t)) := cell_of_row W9 _ 0 _ _ _ hr9
    have p1 : W9.cell? ⟨B + 1 + 1 + 1, 1, none⟩ = some (.int .i64 (n.x)) := cell_of_row W9 _ 1 _ _ _ hr9
    have p2 : W9.cell? ⟨B + 1 + 1 + 1, 2, none⟩ = some (.int .i64 (n.y)) := cell_of_row W9 _ 2 _ _ _ hr9
    have p3 : W9.cell? ⟨B + 1 + 1 + 1, 3, none⟩ = some (.int .i64 (n.h)) := cell_of_row W9 _ 3 _ _ _ hr9
    have p4 : W9.cell? ⟨B + 1 + 1 + 1, 4, none⟩ = some (.int .i64 (n.r)) := cell_of_row W9 _ 4 _ _ _ hr9
    have p5 : W9.cell? ⟨B + 1 + 1 + 1, 5, none⟩ = some (.int .i64 (n.b)) := cell_of_row W9 _ 5 _ _ _ hr9
    have p6 : W9.cell? ⟨B + 1 + 1 + 1, 6, none⟩ = some (.int .i64 (n.x)) := cell_of_row W9 _ 6 _ _ _ hr9
    have p7 : W9.cell? ⟨B + 1 + 1 + 1, 7, none⟩ = some (.int .i64 (n.y)) := cell_of_row W9 _ 7 _ _ _ hr9
    have p8 : W9.cell? ⟨B + 1 + 1 + 1, 8, none⟩ = some (.int .i64 (hv)) := cell_of_row W9 _ 8 _ _ _ hr9
    have o0 : W9.cell? ⟨B + 1, 0, none⟩ = some (.int .i64 0) := cell_of_row W9 _ 0 _ _ _ hs9
    have z0 : W9.frozen? ⟨B + 1, 0, none⟩ = false := frozen_of_row W9 _ 0 _ _ hs9
    have o1 : W9.cell? ⟨B + 1, 1, none⟩ = some (.int .i64 0) := cell_of_row W9 _ 1 _ _ _ hs9
    have z1 : W9.frozen? ⟨B + 1, 1, none⟩ = false := frozen_of_row W9 _ 1 _ _ hs9
    have o2 : W9.cell? ⟨B + 1, 2, none⟩ = some (.int .i64 0) := cell_of_row W9 _ 2 _ _ _ hs9
    have z2 : W9.frozen? ⟨B + 1, 2, none⟩ = false := frozen_of_row W9 _ 2 _ _ hs9
    have o3 : W9.cell? ⟨B + 1, 3, none⟩ = some (.int .i64 0) := cell_of_row W9 _ 3 _ _ _ hs9
    have z3 : W9.frozen? ⟨B + 1, 3, none⟩ = false := frozen_of_row W9 _ 3 _ _ hs9
    have o4 : W9.cell? ⟨B + 1, 4, none⟩ = some (.int .i64 0) := cell_of_row W9 _ 4 _ _ _ hs9
    have z4 : W9.frozen? ⟨B + 1, 4, none⟩ = false := frozen_of_row W9 _ 4 _ _ hs9
    have o5 : W9.cell? ⟨B + 1, 5, none⟩ = some (.int .i64 0) := cell_of_row W9 _ 5 _ _ _ hs9
    have z5 : W9.frozen? ⟨B + 1, 5, none⟩ = false := frozen_of_row W9 _ 5 _ _ hs9
    have o6 : W9.cell? ⟨B + 1, 6, none⟩ = some (.int .i64 0) := cell_of_row W9 _ 6 _ _ _ hs9
    have z6 : W9.frozen? ⟨B + 1, 6, none⟩ = false := frozen_of_row W9 _ 6 _ _ hs9
    have o7 : W9.cell? ⟨B + 1, 7, none⟩ = some (.int .i64 0) := cell_of_row W9 _ 7 _ _ _ hs9
    have z7 : W9.frozen? ⟨B + 1, 7, none⟩ = false := frozen_of_row W9 _ 7 _ _ hs9
    have o8 : W9.cell? ⟨B + 1, 8, none⟩ = some (.int .i64 0) := cell_of_row W9 _ 8 _ _ _ hs9
    have z8 : W9.frozen? ⟨B + 1, 8, none⟩ = false := frozen_of_row W9 _ 8 _ _ hs9
    clear hW9 hr9 hb9 hs9
    go_wp2_with fail
    exact put_end HS9.out HB9.out (by rw [HBn.out]; omega) HAc.out rfl rfl
   ·have mk : (bits .and .i64 (k / 4096) 1 == 1) = false := by rw [m3]; simp [hk12]
    clear hk12 m3
    have hhw : IntKind.i64.wrap (n.h - n.b) = n.h - n.b := IntWalk.i64_in _ (by have := HOk.out.h0; have := HOk.out.h1; have := HOk.out.b0; have := HOk.out.b1; omega)
    obtain ⟨hv, hhv⟩ : ∃ v, (if n.h - n.b < 0 then 0 else if 60000 < n.h - n.b then 60000 else n.h - n.b) = v := ⟨_, rfl⟩
    have HBt := Lib.hid (fun (W : World) => Between_any (n.h - n.b) W)
    rw [hhv] at HBt
    have hvb : 0 ≤ hv ∧ hv ≤ 60000 ∧ max (hv - n.h) (n.h - hv) ≤ n.b := by
     have := HOk.out.h0; have := HOk.out.h1; have := HOk.out.b0
     rw [← hhv]
     split
     ·omega
     ·split <;> omega
    have HAc : Hid (AcOk ⟨n, n.x, n.y, hv⟩) := Lib.hid ⟨HOk.out, HOk.out.x0, HOk.out.x1, HOk.out.y0, HOk.out.y1, hvb.1, hvb.2.1, by show sqI n.x n.y n.x n.y ≤ n.r * n.r; unfold sqI; rw [Int.sub_self, Int.sub_self]; simpa using sq_pos n.r, hvb.2.2⟩
    clear hhv hvb
    have q3 : w4.cell? ⟨B, 3, none⟩ = some (.int .i64 n.h) := cell_of_row w4 _ 3 _ _ _ R0.out
    have q5 : w4.cell? ⟨B, 5, none⟩ = some (.int .i64 n.b) := cell_of_row w4 _ 5 _ _ _ R0.out
    have q8 : w4.cell? ⟨B + 1 + 1 + 1, 8, none⟩ = some (.int .i64 n.h) := cell_of_row w4 _ 8 _ _ _ R3.out
    have z8 : w4.frozen? ⟨B + 1 + 1 + 1, 8, none⟩ = false := frozen_of_row w4 _ 8 _ _ R3.out
    go_upto_region 10 with (go_at_call 122; go_loud (refine (HBt.out _).mono ?_; rintro e w6 ⟨rfl, hw6⟩; obtain rfl := hw6.symm))
    have hr9 := heap_setCell_same w4 _ 8 _ _ (.int .i64 hv) R3.out
    have hb9 : Below w.heap.size w (w4.setCell ⟨B + 1 + 1 + 1, 8, none⟩ (.int .i64 hv)) := HBW.out.setCell (show w.heap.size ≤ B + 1 + 1 + 1 by rw [HBn.out]; omega) _
    have hs9 := (Below.heap_setCell w4 ⟨B + 1 + 1 + 1, 8, none⟩ (.int .i64 hv) (B + 1) (by simp)).trans R1.out
    obtain ⟨W9, hW9⟩ : ∃ X, w4.setCell ⟨B + 1 + 1 + 1, 8, none⟩ (.int .i64 hv) = X := ⟨_, rfl⟩
    rw [hW9] at hr9 hb9 hs9 ⊢
    have HB9 := Lib.hid hb9
    have HS9 := Lib.hid hs9
    have p0 : W9.cell? ⟨B + 1 + 1 + 1, 0, none⟩ = some (.int .i64 (n.t)) := cell_of_row W9 _ 0 _ _ _ hr9
    have p1 : W9.cell? ⟨B + 1 + 1 + 1, 1, none⟩ = some (.int .i64 (n.x)) := cell_of_row W9 _ 1 _ _ _ hr9
    have p2 : W9.cell? ⟨B + 1 + 1 + 1, 2, none⟩ = some (.int .i64 (n.y)) := cell_of_row W9 _ 2 _ _ _ hr9
    have p3 : W9.cell? ⟨B + 1 + 1 + 1, 3, none⟩ = some (.int .i64 (n.h)) := cell_of_row W9 _ 3 _ _ _ hr9
    have p4 : W9.cell? ⟨B + 1 + 1 + 1, 4, none⟩ = some (.int .i64 (n.r)) := cell_of_row W9 _ 4 _ _ _ hr9
    have p5 : W9.cell? ⟨B + 1 + 1 + 1, 5, none⟩ = some (.int .i64 (n.b)) := cell_of_row W9 _ 5 _ _ _ hr9
    have p6 : W9.cell? ⟨B + 1 + 1 + 1, 6, none⟩ = some (.int .i64 (n.x)) := cell_of_row W9 _ 6 _ _ _ hr9
    have p7 : W9.cell? ⟨B + 1 + 1 + 1, 7, none⟩ = some (.int .i64 (n.y)) := cell_of_row W9 _ 7 _ _ _ hr9
    have p8 : W9.cell? ⟨B + 1 + 1 + 1, 8, none⟩ = some (.int .i64 (hv)) := cell_of_row W9 _ 8 _ _ _ hr9
    have o0 : W9.cell? ⟨B + 1, 0, none⟩ = some (.int .i64 0) := cell_of_row W9 _ 0 _ _ _ hs9
    have z0 : W9.frozen? ⟨B + 1, 0, none⟩ = false := frozen_of_row W9 _ 0 _ _ hs9
    have o1 : W9.cell? ⟨B + 1, 1, none⟩ = some (.int .i64 0) := cell_of_row W9 _ 1 _ _ _ hs9
    have z1 : W9.frozen? ⟨B + 1, 1, none⟩ = false := frozen_of_row W9 _ 1 _ _ hs9
    have o2 : W9.cell? ⟨B + 1, 2, none⟩ = some (.int .i64 0) := cell_of_row W9 _ 2 _ _ _ hs9
    have z2 : W9.frozen? ⟨B + 1, 2, none⟩ = false := frozen_of_row W9 _ 2 _ _ hs9
    have o3 : W9.cell? ⟨B + 1, 3, none⟩ = some (.int .i64 0) := cell_of_row W9 _ 3 _ _ _ hs9
    have z3 : W9.frozen? ⟨B + 1, 3, none⟩ = false := frozen_of_row W9 _ 3 _ _ hs9
    have o4 : W9.cell? ⟨B + 1, 4, none⟩ = some (.int .i64 0) := cell_of_row W9 _ 4 _ _ _ hs9
    have z4 : W9.frozen? ⟨B + 1, 4, none⟩ = false := frozen_of_row W9 _ 4 _ _ hs9
    have o5 : W9.cell? ⟨B + 1, 5, none⟩ = some (.int .i64 0) := cell_of_row W9 _ 5 _ _ _ hs9
    have z5 : W9.frozen? ⟨B + 1, 5, none⟩ = false := frozen_of_row W9 _ 5 _ _ hs9
    have o6 : W9.cell? ⟨B + 1, 6, none⟩ = some (.int .i64 0) := cell_of_row W9 _ 6 _ _ _ hs9
    have z6 : W9.frozen? ⟨B + 1, 6, none⟩ = false := frozen_of_row W9 _ 6 _ _ hs9
    have o7 : W9.cell? ⟨B + 1, 7, none⟩ = some (.int .i64 0) := cell_of_row W9 _ 7 _ _ _ hs9
    have z7 : W9.frozen? ⟨B + 1, 7, none⟩ = false := frozen_of_row W9 _ 7 _ _ hs9
    have o8 : W9.cell? ⟨B + 1, 8, none⟩ = some (.int .i64 0) := cell_of_row W9 _ 8 _ _ _ hs9
    have z8 : W9.frozen? ⟨B + 1, 8, none⟩ = false := frozen_of_row W9 _ 8 _ _ hs9
    clear hW9 hr9 hb9 hs9
    go_wp2_with fail
    exact put_end HS9.out HB9.out (by rw [HBn.out]; omega) HAc.out rfl rfl
  rw [hpt] at HPc
  have hpz := ptE_zero hpt
  have HWi := Lib.hid (fun W => Within_any n.x n.y x y n.r W ⟨HOk.out.x0, HOk.out.x1⟩ ⟨HOk.out.y0, HOk.out.y1⟩ hpz.1 hpz.2 HOk.out.r0 HOk.out.r1)
  have HPz := Lib.hid hpz
  clear hpz hpt
  by_cases hsq : sqI n.x n.y x y ≤ n.r * n.r
  case neg =>
   rw [decide_eq_false hsq] at HWi
   clear hsq
   go_upto_region 7 with (first | (go_at_call 76; go_loud (refine HPc.out.mono ?_; rintro e w4 ⟨rfl, hb4⟩; obtain ⟨hv4, hr4⟩ := A76.out w4 hb4; obtain ⟨r0, _, _, _⟩ := HG.out w4 hv4; have e1 : w4.cell? ⟨B, 1, none⟩ = some (.int .i64 n.x) := cell_of_row w4 _ 1 _ _ _ r0; have e2 : w4.cell? ⟨B, 1 + 1, none⟩ = some (.int .i64 n.y) := cell_of_row w4 _ 2 _ _ _ r0; have e4 : w4.cell? ⟨B, 4, none⟩ = some (.int .i64 n.r) := cell_of_row w4 _ 4 _ _ _ r0; have s0 : w4.cell? ⟨w2.heap.size, 0, none⟩ = some (.int .i64 x) := cell_of_row w4 _ 0 _ _ _ hr4; have s1 : w4.cell? ⟨w2.heap.size, 0 + 1, none⟩ = some (.int .i64 y) := cell_of_row w4 _ 1 _ _ _ hr4; have HV4 := Lib.hid hv4; have HR4 := Lib.hid hr4; clear r0 hv4 hr4 hb4)) | (go_at_call 121; go_loud (refine (HWi.out w4).mono ?_; rintro e w5 ⟨rfl, hb5⟩; have HV5 := Lib.hid (HV4.out.trans (hb5.mono HV4.out.size)); have HR5 := Lib.hid ((hb5.block _ (Array.getElem?_eq_some_iff.1 HR4.out).1).trans HR4.out); have s2 : w5.cell? ⟨w2.heap.size, 0, none⟩ = some (.int .i64 x) := cell_of_row w5 _ 0 _ _ _ HR5.out; have s3 : w5.cell? ⟨w2.heap.size, 0 + 1, none⟩ = some (.int .i64 y) := cell_of_row w5 _ 1 _ _ _ HR5.out; clear hb5)))
   clear c0 c1 e1 e2 e4 s0 s1 s2 s3
   obtain ⟨r0, r1, r2, r3⟩ := HG.out w5 HV5.out
   have R0 := Lib.hid r0
   have R1 := Lib.hid r1
   have R3 := Lib.hid r3
   clear r0 r1 r2 r3
   have HBW := Lib.hid (HBV.out.trans ((HV5.out).mono HBV.out.size))
   by_cases hk12 : k / 4096 % 2 = 1
   ·have mk : (bits .and .i64 (k / 4096) 1 == 1) = true := by rw [m3]; simp [hk12]
    clear hk12 m3
    have hhw : IntKind.i64.wrap (n.h + n.b) = n.h + n.b := IntWalk.i64_in _ (by have := HOk.out.h0; have := HOk.out.h1; have := HOk.out.b0; have := HOk.out.b1; omega)
    obtain ⟨hv, hhv⟩ : ∃ v, (if n.h + n.b < 0 then 0 else if 60000 < n.h + n.b then 60000 else n.h + n.b) = v := ⟨_, rfl⟩
    have HBt := Lib.hid (fun (W : World) => Between_any (n.h + n.b) W)
    rw [hhv] at HBt
    have hvb : 0 ≤ hv ∧ hv ≤ 60000 ∧ max (hv - n.h) (n.h - hv) ≤ n.b := by
     have := HOk.out.h0; have := HOk.out.h1; have := HOk.out.b0
     rw [← hhv]
     split
     ·omega
     ·split <;> omega
    have HAc : Hid (AcOk ⟨n, n.x, n.y, hv⟩) := Lib.hid ⟨HOk.out, HOk.out.x0, HOk.out.x1, HOk.out.y0, HOk.out.y1, hvb.1, hvb.2.1, by show sqI n.x n.y n.x n.y ≤ n.r * n.r; unfold sqI; rw [Int.sub_self, Int.sub_self]; simpa using sq_pos n.r, hvb.2.2⟩
    clear hhv hvb
    have q3 : w5.cell? ⟨B, 3, none⟩ = some (.int .i64 n.h) := cell_of_row w5 _ 3 _ _ _ R0.out
    have q5 : w5.cell? ⟨B, 5, none⟩ = some (.int .i64 n.b) := cell_of_row w5 _ 5 _ _ _ R0.out
    have q8 : w5.cell? ⟨B + 1 + 1 + 1, 8, none⟩ = some (.int .i64 n.h) := cell_of_row w5 _ 8 _ _ _ R3.out
    have z8 : w5.frozen? ⟨B + 1 + 1 + 1, 8, none⟩ = false := frozen_of_row w5 _ 8 _ _ R3.out
    go_upto_region 10 with (go_at_call 122; go_loud (refine (HBt.out _).mono ?_; rintro e w6 ⟨rfl, hw6⟩; obtain rfl := hw6.symm))
    have hr9 := heap_setCell_same w5 _ 8 _ _ (.int .i64 hv) R3.out
    have hb9 : Below w.heap.size w (w5.setCell ⟨B + 1 + 1 + 1, 8, none⟩ (.int .i64 hv)) := HBW.out.setCell (show w.heap.size ≤ B + 1 + 1 + 1 by rw [HBn.out]; omega) _
    have hs9 := (Below.heap_setCell w5 ⟨B + 1 + 1 + 1, 8, none⟩ (.int .i64 hv) (B + 1) (by simp)).trans R1.out
    obtain ⟨W9, hW9⟩ : ∃ X, w5.setCell ⟨B + 1 + 1 + 1, 8, none⟩ (.int .i64 hv) = X := ⟨_, rfl⟩
    rw [hW9] at hr9 hb9 hs9 ⊢
    have HB9 := Lib.hid hb9
    have HS9 := Lib.hid hs9
    have p0 : W9.cell? ⟨B + 1 + 1 + 1, 0, none⟩ = some (.int .i64 (n.t)) := cell_of_row W9 _ 0 _ _ _ hr9
    have p1 : W9.cell? ⟨B + 1 + 1 + 1, 1, none⟩ = some (.int .i64 (n.x)) := cell_of_row W9 _ 1 _ _ _ hr9
    have p2 : W9.cell? ⟨B + 1 + 1 + 1, 2, none⟩ = some (.int .i64 (n.y)) := cell_of_row W9 _ 2 _ _ _ hr9
    have p3 : W9.cell? ⟨B + 1 + 1 + 1, 3, none⟩ = some (.int .i64 (n.h)) := cell_of_row W9 _ 3 _ _ _ hr9
    have p4 : W9.cell? ⟨B + 1 + 1 + 1, 4, none⟩ = some (.int .i64 (n.r)) := cell_of_row W9 _ 4 _ _ _ hr9
    have p5 : W9.cell? ⟨B + 1 + 1 + 1, 5, none⟩ = some (.int .i64 (n.b)) := cell_of_row W9 _ 5 _ _ _ hr9
    have p6 : W9.cell? ⟨B + 1 + 1 + 1, 6, none⟩ = some (.int .i64 (n.x)) := cell_of_row W9 _ 6 _ _ _ hr9
    have p7 : W9.cell? ⟨B + 1 + 1 + 1, 7, none⟩ = some (.int .i64 (n.y)) := cell_of_row W9 _ 7 _ _ _ hr9
    have p8 : W9.cell? ⟨B + 1 + 1 + 1, 8, none⟩ = some (.int .i64 (hv)) := cell_of_row W9 _ 8 _ _ _ hr9
    have o0 : W9.cell? ⟨B + 1, 0, none⟩ = some (.int .i64 0) := cell_of_row W9 _ 0 _ _ _ hs9
    have z0 : W9.frozen? ⟨B + 1, 0, none⟩ = false := frozen_of_row W9 _ 0 _ _ hs9
    have o1 : W9.cell? ⟨B + 1, 1, none⟩ = some (.int .i64 0) := cell_of_row W9 _ 1 _ _ _ hs9
    have z1 : W9.frozen? ⟨B + 1, 1, none⟩ = false := frozen_of_row W9 _ 1 _ _ hs9
    have o2 : W9.cell? ⟨B + 1, 2, none⟩ = some (.int .i64 0) := cell_of_row W9 _ 2 _ _ _ hs9
    have z2 : W9.frozen? ⟨B + 1, 2, none⟩ = false := frozen_of_row W9 _ 2 _ _ hs9
    have o3 : W9.cell? ⟨B + 1, 3, none⟩ = some (.int .i64 0) := cell_of_row W9 _ 3 _ _ _ hs9
    have z3 : W9.frozen? ⟨B + 1, 3, none⟩ = false := frozen_of_row W9 _ 3 _ _ hs9
    have o4 : W9.cell? ⟨B + 1, 4, none⟩ = some (.int .i64 0) := cell_of_row W9 _ 4 _ _ _ hs9
    have z4 : W9.frozen? ⟨B + 1, 4, none⟩ = false := frozen_of_row W9 _ 4 _ _ hs9
    have o5 : W9.cell? ⟨B + 1, 5, none⟩ = some (.int .i64 0) := cell_of_row W9 _ 5 _ _ _ hs9
    have z5 : W9.frozen? ⟨B + 1, 5, none⟩ = false := frozen_of_row W9 _ 5 _ _ hs9
    have o6 : W9.cell? ⟨B + 1, 6, none⟩ = some (.int .i64 0) := cell_of_row W9 _ 6 _ _ _ hs9
    have z6 : W9.frozen? ⟨B + 1, 6, none⟩ = false := frozen_of_row W9 _ 6 _ _ hs9
    have o7 : W9.cell? ⟨B + 1, 7, none⟩ = some (.int .i64 0) := cell_of_row W9 _ 7 _ _ _ hs9
    have z7 : W9.frozen? ⟨B + 1, 7, none⟩ = false := frozen_of_row W9 _ 7 _ _ hs9
    have o8 : W9.cell? ⟨B + 1, 8, none⟩ = some (.int .i64 0) := cell_of_row W9 _ 8 _ _ _ hs9
    have z8 : W9.frozen? ⟨B + 1, 8, none⟩ = false := frozen_of_row W9 _ 8 _ _ hs9
    clear hW9 hr9 hb9 hs9
    go_wp2_with fail
    exact put_end HS9.out HB9.out (by rw [HBn.out]; omega) HAc.out rfl rfl
   ·have mk : (bits .and .i64 (k / 4096) 1 == 1) = false := by rw [m3]; simp [hk12]
    clear hk12 m3
    have hhw : IntKind.i64.wrap (n.h - n.b) = n.h - n.b := IntWalk.i64_in _ (by have := HOk.out.h0; have := HOk.out.h1; have := HOk.out.b0; have := HOk.out.b1; omega)
    obtain ⟨hv, hhv⟩ : ∃ v, (if n.h - n.b < 0 then 0 else if 60000 < n.h - n.b then 60000 else n.h - n.b) = v := ⟨_, rfl⟩
    have HBt := Lib.hid (fun (W : World) => Between_any (n.h - n.b) W)
    rw [hhv] at HBt
    have hvb : 0 ≤ hv ∧ hv ≤ 60000 ∧ max (hv - n.h) (n.h - hv) ≤ n.b := by
     have := HOk.out.h0; have := HOk.out.h1; have := HOk.out.b0
     rw [← hhv]
     split
     ·omega
     ·split <;> omega
    have HAc : Hid (AcOk ⟨n, n.x, n.y, hv⟩) := Lib.hid ⟨HOk.out, HOk.out.x0, HOk.out.x1, HOk.out.y0, HOk.out.y1, hvb.1, hvb.2.1, by show sqI n.x n.y n.x n.y ≤ n.r * n.r; unfold sqI; rw [Int.sub_self, Int.sub_self]; simpa using sq_pos n.r, hvb.2.2⟩
    clear hhv hvb
    have q3 : w5.cell? ⟨B, 3, none⟩ = some (.int .i64 n.h) := cell_of_row w5 _ 3 _ _ _ R0.out
    have q5 : w5.cell? ⟨B, 5, none⟩ = some (.int .i64 n.b) := cell_of_row w5 _ 5 _ _ _ R0.out
    have q8 : w5.cell? ⟨B + 1 + 1 + 1, 8, none⟩ = some (.int .i64 n.h) := cell_of_row w5 _ 8 _ _ _ R3.out
    have z8 : w5.frozen? ⟨B + 1 + 1 + 1, 8, none⟩ = false := frozen_of_row w5 _ 8 _ _ R3.out
    go_upto_region 10 with (go_at_call 122; go_loud (refine (HBt.out _).mono ?_; rintro e w6 ⟨rfl, hw6⟩; obtain rfl := hw6.symm))
    have hr9 := heap_setCell_same w5 _ 8 _ _ (.int .i64 hv) R3.out
    have hb9 : Below w.heap.size w (w5.setCell ⟨B + 1 + 1 + 1, 8, none⟩ (.int .i64 hv)) := HBW.out.setCell (show w.heap.size ≤ B + 1 + 1 + 1 by rw [HBn.out]; omega) _
    have hs9 := (Below.heap_setCell w5 ⟨B + 1 + 1 + 1, 8, none⟩ (.int .i64 hv) (B + 1) (by simp)).trans R1.out
    obtain ⟨W9, hW9⟩ : ∃ X, w5.setCell ⟨B + 1 + 1 + 1, 8, none⟩ (.int .i64 hv) = X := ⟨_, rfl⟩
    rw [hW9] at hr9 hb9 hs9 ⊢
    have HB9 := Lib.hid hb9
    have HS9 := Lib.hid hs9
    have p0 : W9.cell? ⟨B + 1 + 1 + 1, 0, none⟩ = some (.int .i64 (n.t)) := cell_of_row W9 _ 0 _ _ _ hr9
    have p1 : W9.cell? ⟨B + 1 + 1 + 1, 1, none⟩ = some (.int .i64 (n.x)) := cell_of_row W9 _ 1 _ _ _ hr9
    have p2 : W9.cell? ⟨B + 1 + 1 + 1, 2, none⟩ = some (.int .i64 (n.y)) := cell_of_row W9 _ 2 _ _ _ hr9
    have p3 : W9.cell? ⟨B + 1 + 1 + 1, 3, none⟩ = some (.int .i64 (n.h)) := cell_of_row W9 _ 3 _ _ _ hr9
    have p4 : W9.cell? ⟨B + 1 + 1 + 1, 4, none⟩ = some (.int .i64 (n.r)) := cell_of_row W9 _ 4 _ _ _ hr9
    have p5 : W9.cell? ⟨B + 1 + 1 + 1, 5, none⟩ = some (.int .i64 (n.b)) := cell_of_row W9 _ 5 _ _ _ hr9
    have p6 : W9.cell? ⟨B + 1 + 1 + 1, 6, none⟩ = some (.int .i64 (n.x)) := cell_of_row W9 _ 6 _ _ _ hr9
    have p7 : W9.cell? ⟨B + 1 + 1 + 1, 7, none⟩ = some (.int .i64 (n.y)) := cell_of_row W9 _ 7 _ _ _ hr9
    have p8 : W9.cell? ⟨B + 1 + 1 + 1, 8, none⟩ = some (.int .i64 (hv)) := cell_of_row W9 _ 8 _ _ _ hr9
    have o0 : W9.cell? ⟨B + 1, 0, none⟩ = some (.int .i64 0) := cell_of_row W9 _ 0 _ _ _ hs9
    have z0 : W9.frozen? ⟨B + 1, 0, none⟩ = false := frozen_of_row W9 _ 0 _ _ hs9
    have o1 : W9.cell? ⟨B + 1, 1, none⟩ = some (.int .i64 0) := cell_of_row W9 _ 1 _ _ _ hs9
    have z1 : W9.frozen? ⟨B + 1, 1, none⟩ = false := frozen_of_row W9 _ 1 _ _ hs9
    have o2 : W9.cell? ⟨B + 1, 2, none⟩ = some (.int .i64 0) := cell_of_row W9 _ 2 _ _ _ hs9
    have z2 : W9.frozen? ⟨B + 1, 2, none⟩ = false := frozen_of_row W9 _ 2 _ _ hs9
    have o3 : W9.cell? ⟨B + 1, 3, none⟩ = some (.int .i64 0) := cell_of_row W9 _ 3 _ _ _ hs9
    have z3 : W9.frozen? ⟨B + 1, 3, none⟩ = false := frozen_of_row W9 _ 3 _ _ hs9
    have o4 : W9.cell? ⟨B + 1, 4, none⟩ = some (.int .i64 0) := cell_of_row W9 _ 4 _ _ _ hs9
    have z4 : W9.frozen? ⟨B + 1, 4, none⟩ = false := frozen_of_row W9 _ 4 _ _ hs9
    have o5 : W9.cell? ⟨B + 1, 5, none⟩ = some (.int .i64 0) := cell_of_row W9 _ 5 _ _ _ hs9
    have z5 : W9.frozen? ⟨B + 1, 5, none⟩ = false := frozen_of_row W9 _ 5 _ _ hs9
    have o6 : W9.cell? ⟨B + 1, 6, none⟩ = some (.int .i64 0) := cell_of_row W9 _ 6 _ _ _ hs9
    have z6 : W9.frozen? ⟨B + 1, 6, none⟩ = false := frozen_of_row W9 _ 6 _ _ hs9
    have o7 : W9.cell? ⟨B + 1, 7, none⟩ = some (.int .i64 0) := cell_of_row W9 _ 7 _ _ _ hs9
    have z7 : W9.frozen? ⟨B + 1, 7, none⟩ = false := frozen_of_row W9 _ 7 _ _ hs9
    have o8 : W9.cell? ⟨B + 1, 8, none⟩ = some (.int .i64 0) := cell_of_row W9 _ 8 _ _ _ hs9
    have z8 : W9.frozen? ⟨B + 1, 8, none⟩ = false := frozen_of_row W9 _ 8 _ _ hs9
    clear hW9 hr9 hb9 hs9
    go_wp2_with fail
    exact put_end HS9.out HB9.out (by rw [HBn.out]; omega) HAc.out rfl rfl
  rw [decide_eq_true hsq] at HWi
  have HSq := Lib.hid hsq
  clear hsq
  go_upto_region 6 with (first | (go_at_call 76; go_loud (refine HPc.out.mono ?_; rintro e w4 ⟨rfl, hb4⟩; obtain ⟨hv4, hr4⟩ := A76.out w4 hb4; obtain ⟨r0, _, _, _⟩ := HG.out w4 hv4; have e1 : w4.cell? ⟨B, 1, none⟩ = some (.int .i64 n.x) := cell_of_row w4 _ 1 _ _ _ r0; have e2 : w4.cell? ⟨B, 1 + 1, none⟩ = some (.int .i64 n.y) := cell_of_row w4 _ 2 _ _ _ r0; have e4 : w4.cell? ⟨B, 4, none⟩ = some (.int .i64 n.r) := cell_of_row w4 _ 4 _ _ _ r0; have s0 : w4.cell? ⟨w2.heap.size, 0, none⟩ = some (.int .i64 x) := cell_of_row w4 _ 0 _ _ _ hr4; have s1 : w4.cell? ⟨w2.heap.size, 0 + 1, none⟩ = some (.int .i64 y) := cell_of_row w4 _ 1 _ _ _ hr4; have HV4 := Lib.hid hv4; have HR4 := Lib.hid hr4; clear r0 hv4 hr4 hb4)) | (go_at_call 121; go_loud (refine (HWi.out w4).mono ?_; rintro e w5 ⟨rfl, hb5⟩; have HV5 := Lib.hid (HV4.out.trans (hb5.mono HV4.out.size)); have HR5 := Lib.hid ((hb5.block _ (Array.getElem?_eq_some_iff.1 HR4.out).1).trans HR4.out); have s2 : w5.cell? ⟨w2.heap.size, 0, none⟩ = some (.int .i64 x) := cell_of_row w5 _ 0 _ _ _ HR5.out; have s3 : w5.cell? ⟨w2.heap.size, 0 + 1, none⟩ = some (.int .i64 y) := cell_of_row w5 _ 1 _ _ _ HR5.out; clear hb5)))
  clear c0 c1 e1 e2 e4 s0 s1
  obtain ⟨r0, r1, r2, r3⟩ := HG.out w5 HV5.out
  have e6 : w5.cell? ⟨B + 1 + 1 + 1, 6, none⟩ = some (.int .i64 n.x) := cell_of_row w5 _ 6 _ _ _ r3
  have e7 : w5.cell? ⟨B + 1 + 1 + 1, 6 + 1, none⟩ = some (.int .i64 n.y) := cell_of_row w5 _ 7 _ _ _ r3
  have z6 : w5.frozen? ⟨B + 1 + 1 + 1, 6, none⟩ = false := frozen_of_row w5 _ 6 _ _ r3
  have z7 : w5.frozen? ⟨B + 1 + 1 + 1, 6 + 1, none⟩ = false := frozen_of_row w5 _ 7 _ _ r3
  have HR3 := Lib.hid r3
  have HR0 := Lib.hid r0
  have HR1 := Lib.hid r1
  clear r0 r1 r2 r3
  go_upto_region 7 with (fail)
  obtain ⟨W6, hW6⟩ : ∃ W, (w5.setCell ⟨B + 1 + 1 + 1, 6, none⟩ (.int .i64 x)).setCell ⟨B + 1 + 1 + 1, 6 + 1, none⟩ (.int .i64 y) = W := ⟨_, rfl⟩
  have R0 : Hid (W6.heap[B]? = some (.cells #[.int .i64 n.t, .int .i64 n.x, .int .i64 n.y, .int .i64 n.h, .int .i64 n.r, .int .i64 n.b] 52 (0, 0))) := Lib.hid (by rw [← hW6, Below.heap_setCell _ _ _ _ (by simp; omega), Below.heap_setCell _ _ _ _ (by simp; omega)]; exact HR0.out)
  have R1 : Hid (W6.heap[B + 1]? = some (.cells #[.int .i64 0, .int .i64 0, .int .i64 0, .int .i64 0, .int .i64 0, .int .i64 0, .int .i64 0, .int .i64 0, .int .i64 0] 139 (0, 0))) := Lib.hid (by rw [← hW6, Below.heap_setCell _ _ _ _ (by simp), Below.heap_setCell _ _ _ _ (by simp)]; exact HR1.out)
  have R3 : Hid (W6.heap[B + 1 + 1 + 1]? = some (.cells #[.int .i64 n.t, .int .i64 n.x, .int .i64 n.y, .int .i64 n.h, .int .i64 n.r, .int .i64 n.b, .int .i64 x, .int .i64 y, .int .i64 n.h] 139 (0, 0))) := Lib.hid (by rw [← hW6]; exact heap_setCell_same _ _ 7 _ 139 _ (heap_setCell_same _ _ 6 _ 139 _ HR3.out))
  have HBW : Hid (Below w.heap.size w W6) := Lib.hid (by rw [← hW6]; exact ((HBV.out.trans (HV5.out.mono HBV.out.size)).setCell (show w.heap.size ≤ B + 1 + 1 + 1 by rw [HBn.out]; omega) _).setCell (show w.heap.size ≤ B + 1 + 1 + 1 by rw [HBn.out]; omega) _)
  rw [hW6]
  clear hW6 e6 e7 z6 z7 s2 s3
  by_cases hk12 : k / 4096 % 2 = 1
  ·have mk : (bits .and .i64 (k / 4096) 1 == 1) = true := by rw [m3]; simp [hk12]
   clear hk12 m3
   have hhw : IntKind.i64.wrap (n.h + n.b) = n.h + n.b := IntWalk.i64_in _ (by have := HOk.out.h0; have := HOk.out.h1; have := HOk.out.b0; have := HOk.out.b1; omega)
   obtain ⟨hv, hhv⟩ : ∃ v, (if n.h + n.b < 0 then 0 else if 60000 < n.h + n.b then 60000 else n.h + n.b) = v := ⟨_, rfl⟩
   have HBt := Lib.hid (fun (W : World) => Between_any (n.h + n.b) W)
   rw [hhv] at HBt
   have hvb : 0 ≤ hv ∧ hv ≤ 60000 ∧ max (hv - n.h) (n.h - hv) ≤ n.b := by
    have := HOk.out.h0; have := HOk.out.h1; have := HOk.out.b0
    rw [← hhv]
    split
    ·omega
    ·split <;> omega
   have HAc : Hid (AcOk ⟨n, x, y, hv⟩) := Lib.hid ⟨HOk.out, HPz.out.1.1, HPz.out.1.2, HPz.out.2.1, HPz.out.2.2, hvb.1, hvb.2.1, HSq.out, hvb.2.2⟩
   clear hhv hvb
   have q3 : W6.cell? ⟨B, 3, none⟩ = some (.int .i64 n.h) := cell_of_row W6 _ 3 _ _ _ R0.out
   have q5 : W6.cell? ⟨B, 5, none⟩ = some (.int .i64 n.b) := cell_of_row W6 _ 5 _ _ _ R0.out
   have q8 : W6.cell? ⟨B + 1 + 1 + 1, 8, none⟩ = some (.int .i64 n.h) := cell_of_row W6 _ 8 _ _ _ R3.out
   have z8 : W6.frozen? ⟨B + 1 + 1 + 1, 8, none⟩ = false := frozen_of_row W6 _ 8 _ _ R3.out
   go_upto_region 10 with (go_at_call 122; go_loud (refine (HBt.out _).mono ?_; rintro e w6 ⟨rfl, hw6⟩; obtain rfl := hw6.symm))
   have hr9 := heap_setCell_same W6 _ 8 _ _ (.int .i64 hv) R3.out
   have hb9 : Below w.heap.size w (W6.setCell ⟨B + 1 + 1 + 1, 8, none⟩ (.int .i64 hv)) := HBW.out.setCell (show w.heap.size ≤ B + 1 + 1 + 1 by rw [HBn.out]; omega) _
   have hs9 := (Below.heap_setCell W6 ⟨B + 1 + 1 + 1, 8, none⟩ (.int .i64 hv) (B + 1) (by simp)).trans R1.out
   obtain ⟨W9, hW9⟩ : ∃ X, W6.setCell ⟨B + 1 + 1 + 1, 8, none⟩ (.int .i64 hv) = X := ⟨_, rfl⟩
   rw [hW9] at hr9 hb9 hs9 ⊢
   have HB9 := Lib.hid hb9
   have HS9 := Lib.hid hs9
   have p0 : W9.cell? ⟨B + 1 + 1 + 1, 0, none⟩ = some (.int .i64 (n.t)) := cell_of_row W9 _ 0 _ _ _ hr9
   have p1 : W9.cell? ⟨B + 1 + 1 + 1, 1, none⟩ = some (.int .i64 (n.x)) := cell_of_row W9 _ 1 _ _ _ hr9
   have p2 : W9.cell? ⟨B + 1 + 1 + 1, 2, none⟩ = some (.int .i64 (n.y)) := cell_of_row W9 _ 2 _ _ _ hr9
   have p3 : W9.cell? ⟨B + 1 + 1 + 1, 3, none⟩ = some (.int .i64 (n.h)) := cell_of_row W9 _ 3 _ _ _ hr9
   have p4 : W9.cell? ⟨B + 1 + 1 + 1, 4, none⟩ = some (.int .i64 (n.r)) := cell_of_row W9 _ 4 _ _ _ hr9
   have p5 : W9.cell? ⟨B + 1 + 1 + 1, 5, none⟩ = some (.int .i64 (n.b)) := cell_of_row W9 _ 5 _ _ _ hr9
   have p6 : W9.cell? ⟨B + 1 + 1 + 1, 6, none⟩ = some (.int .i64 (x)) := cell_of_row W9 _ 6 _ _ _ hr9
   have p7 : W9.cell? ⟨B + 1 + 1 + 1, 7, none⟩ = some (.int .i64 (y)) := cell_of_row W9 _ 7 _ _ _ hr9
   have p8 : W9.cell? ⟨B + 1 + 1 + 1, 8, none⟩ = some (.int .i64 (hv)) := cell_of_row W9 _ 8 _ _ _ hr9
   have o0 : W9.cell? ⟨B + 1, 0, none⟩ = some (.int .i64 0) := cell_of_row W9 _ 0 _ _ _ hs9
   have z0 : W9.frozen? ⟨B + 1, 0, none⟩ = false := frozen_of_row W9 _ 0 _ _ hs9
   have o1 : W9.cell? ⟨B + 1, 1, none⟩ = some (.int .i64 0) := cell_of_row W9 _ 1 _ _ _ hs9
   have z1 : W9.frozen? ⟨B + 1, 1, none⟩ = false := frozen_of_row W9 _ 1 _ _ hs9
   have o2 : W9.cell? ⟨B + 1, 2, none⟩ = some (.int .i64 0) := cell_of_row W9 _ 2 _ _ _ hs9
   have z2 : W9.frozen? ⟨B + 1, 2, none⟩ = false := frozen_of_row W9 _ 2 _ _ hs9
   have o3 : W9.cell? ⟨B + 1, 3, none⟩ = some (.int .i64 0) := cell_of_row W9 _ 3 _ _ _ hs9
   have z3 : W9.frozen? ⟨B + 1, 3, none⟩ = false := frozen_of_row W9 _ 3 _ _ hs9
   have o4 : W9.cell? ⟨B + 1, 4, none⟩ = some (.int .i64 0) := cell_of_row W9 _ 4 _ _ _ hs9
   have z4 : W9.frozen? ⟨B + 1, 4, none⟩ = false := frozen_of_row W9 _ 4 _ _ hs9
   have o5 : W9.cell? ⟨B + 1, 5, none⟩ = some (.int .i64 0) := cell_of_row W9 _ 5 _ _ _ hs9
   have z5 : W9.frozen? ⟨B + 1, 5, none⟩ = false := frozen_of_row W9 _ 5 _ _ hs9
   have o6 : W9.cell? ⟨B + 1, 6, none⟩ = some (.int .i64 0) := cell_of_row W9 _ 6 _ _ _ hs9
   have z6 : W9.frozen? ⟨B + 1, 6, none⟩ = false := frozen_of_row W9 _ 6 _ _ hs9
   have o7 : W9.cell? ⟨B + 1, 7, none⟩ = some (.int .i64 0) := cell_of_row W9 _ 7 _ _ _ hs9
   have z7 : W9.frozen? ⟨B + 1, 7, none⟩ = false := frozen_of_row W9 _ 7 _ _ hs9
   have o8 : W9.cell? ⟨B + 1, 8, none⟩ = some (.int .i64 0) := cell_of_row W9 _ 8 _ _ _ hs9
   have z8 : W9.frozen? ⟨B + 1, 8, none⟩ = false := frozen_of_row W9 _ 8 _ _ hs9
   clear hW9 hr9 hb9 hs9
   go_wp2_with fail
   exact put_end HS9.out HB9.out (by rw [HBn.out]; omega) HAc.out rfl rfl
  ·have mk : (bits .and .i64 (k / 4096) 1 == 1) = false := by rw [m3]; simp [hk12]
   clear hk12 m3
   have hhw : IntKind.i64.wrap (n.h - n.b) = n.h - n.b := IntWalk.i64_in _ (by have := HOk.out.h0; have := HOk.out.h1; have := HOk.out.b0; have := HOk.out.b1; omega)
   obtain ⟨hv, hhv⟩ : ∃ v, (if n.h - n.b < 0 then 0 else if 60000 < n.h - n.b then 60000 else n.h - n.b) = v := ⟨_, rfl⟩
   have HBt := Lib.hid (fun (W : World) => Between_any (n.h - n.b) W)
   rw [hhv] at HBt
   have hvb : 0 ≤ hv ∧ hv ≤ 60000 ∧ max (hv - n.h) (n.h - hv) ≤ n.b := by
    have := HOk.out.h0; have := HOk.out.h1; have := HOk.out.b0
    rw [← hhv]
    split
    ·omega
    ·split <;> omega
   have HAc : Hid (AcOk ⟨n, x, y, hv⟩) := Lib.hid ⟨HOk.out, HPz.out.1.1, HPz.out.1.2, HPz.out.2.1, HPz.out.2.2, hvb.1, hvb.2.1, HSq.out, hvb.2.2⟩
   clear hhv hvb
   have q3 : W6.cell? ⟨B, 3, none⟩ = some (.int .i64 n.h) := cell_of_row W6 _ 3 _ _ _ R0.out
   have q5 : W6.cell? ⟨B, 5, none⟩ = some (.int .i64 n.b) := cell_of_row W6 _ 5 _ _ _ R0.out
   have q8 : W6.cell? ⟨B + 1 + 1 + 1, 8, none⟩ = some (.int .i64 n.h) := cell_of_row W6 _ 8 _ _ _ R3.out
   have z8 : W6.frozen? ⟨B + 1 + 1 + 1, 8, none⟩ = false := frozen_of_row W6 _ 8 _ _ R3.out
   go_upto_region 10 with (go_at_call 122; go_loud (refine (HBt.out _).mono ?_; rintro e w6 ⟨rfl, hw6⟩; obtain rfl := hw6.symm))
   have hr9 := heap_setCell_same W6 _ 8 _ _ (.int .i64 hv) R3.out
   have hb9 : Below w.heap.size w (W6.setCell ⟨B + 1 + 1 + 1, 8, none⟩ (.int .i64 hv)) := HBW.out.setCell (show w.heap.size ≤ B + 1 + 1 + 1 by rw [HBn.out]; omega) _
   have hs9 := (Below.heap_setCell W6 ⟨B + 1 + 1 + 1, 8, none⟩ (.int .i64 hv) (B + 1) (by simp)).trans R1.out
   obtain ⟨W9, hW9⟩ : ∃ X, W6.setCell ⟨B + 1 + 1 + 1, 8, none⟩ (.int .i64 hv) = X := ⟨_, rfl⟩
   rw [hW9] at hr9 hb9 hs9 ⊢
   have HB9 := Lib.hid hb9
   have HS9 := Lib.hid hs9
   have p0 : W9.cell? ⟨B + 1 + 1 + 1, 0, none⟩ = some (.int .i64 (n.t)) := cell_of_row W9 _ 0 _ _ _ hr9
   have p1 : W9.cell? ⟨B + 1 + 1 + 1, 1, none⟩ = some (.int .i64 (n.x)) := cell_of_row W9 _ 1 _ _ _ hr9
   have p2 : W9.cell? ⟨B + 1 + 1 + 1, 2, none⟩ = some (.int .i64 (n.y)) := cell_of_row W9 _ 2 _ _ _ hr9
   have p3 : W9.cell? ⟨B + 1 + 1 + 1, 3, none⟩ = some (.int .i64 (n.h)) := cell_of_row W9 _ 3 _ _ _ hr9
   have p4 : W9.cell? ⟨B + 1 + 1 + 1, 4, none⟩ = some (.int .i64 (n.r)) := cell_of_row W9 _ 4 _ _ _ hr9
   have p5 : W9.cell? ⟨B + 1 + 1 + 1, 5, none⟩ = some (.int .i64 (n.b)) := cell_of_row W9 _ 5 _ _ _ hr9
   have p6 : W9.cell? ⟨B + 1 + 1 + 1, 6, none⟩ = some (.int .i64 (x)) := cell_of_row W9 _ 6 _ _ _ hr9
   have p7 : W9.cell? ⟨B + 1 + 1 + 1, 7, none⟩ = some (.int .i64 (y)) := cell_of_row W9 _ 7 _ _ _ hr9
   have p8 : W9.cell? ⟨B + 1 + 1 + 1, 8, none⟩ = some (.int .i64 (hv)) := cell_of_row W9 _ 8 _ _ _ hr9
   have o0 : W9.cell? ⟨B + 1, 0, none⟩ = some (.int .i64 0) := cell_of_row W9 _ 0 _ _ _ hs9
   have z0 : W9.frozen? ⟨B + 1, 0, none⟩ = false := frozen_of_row W9 _ 0 _ _ hs9
   have o1 : W9.cell? ⟨B + 1, 1, none⟩ = some (.int .i64 0) := cell_of_row W9 _ 1 _ _ _ hs9
   have z1 : W9.frozen? ⟨B + 1, 1, none⟩ = false := frozen_of_row W9 _ 1 _ _ hs9
   have o2 : W9.cell? ⟨B + 1, 2, none⟩ = some (.int .i64 0) := cell_of_row W9 _ 2 _ _ _ hs9
   have z2 : W9.frozen? ⟨B + 1, 2, none⟩ = false := frozen_of_row W9 _ 2 _ _ hs9
   have o3 : W9.cell? ⟨B + 1, 3, none⟩ = some (.int .i64 0) := cell_of_row W9 _ 3 _ _ _ hs9
   have z3 : W9.frozen? ⟨B + 1, 3, none⟩ = false := frozen_of_row W9 _ 3 _ _ hs9
   have o4 : W9.cell? ⟨B + 1, 4, none⟩ = some (.int .i64 0) := cell_of_row W9 _ 4 _ _ _ hs9
   have z4 : W9.frozen? ⟨B + 1, 4, none⟩ = false := frozen_of_row W9 _ 4 _ _ hs9
   have o5 : W9.cell? ⟨B + 1, 5, none⟩ = some (.int .i64 0) := cell_of_row W9 _ 5 _ _ _ hs9
   have z5 : W9.frozen? ⟨B + 1, 5, none⟩ = false := frozen_of_row W9 _ 5 _ _ hs9
   have o6 : W9.cell? ⟨B + 1, 6, none⟩ = some (.int .i64 0) := cell_of_row W9 _ 6 _ _ _ hs9
   have z6 : W9.frozen? ⟨B + 1, 6, none⟩ = false := frozen_of_row W9 _ 6 _ _ hs9
   have o7 : W9.cell? ⟨B + 1, 7, none⟩ = some (.int .i64 0) := cell_of_row W9 _ 7 _ _ _ hs9
   have z7 : W9.frozen? ⟨B + 1, 7, none⟩ = false := frozen_of_row W9 _ 7 _ _ hs9
   have o8 : W9.cell? ⟨B + 1, 8, none⟩ = some (.int .i64 0) := cell_of_row W9 _ 8 _ _ _ hs9
   have z8 : W9.frozen? ⟨B + 1, 8, none⟩ = false := frozen_of_row W9 _ 8 _ _ hs9
   clear hW9 hr9 hb9 hs9
   go_wp2_with fail
   exact put_end HS9.out HB9.out (by rw [HBn.out]; omega) HAc.out rfl rfl
end Go.Proofs.YtaebebpldkciiaaGreatDoor
