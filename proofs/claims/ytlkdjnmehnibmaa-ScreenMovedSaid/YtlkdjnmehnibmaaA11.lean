/- Package screen: the walk of ScreenMoved. -/
import Derived.Test.YtlkdjnmehnibmaaA10
namespace Go.Proofs.Ytlkdjnmehnibmaa
open Go.RowKit

set_option maxRecDepth 100000 in
set_option maxHeartbeats 4000000 in
theorem cutC_any (x y : Int) (w : World) : Calls Try.prog 17 #[.agg #[.int .i64 x, .int .i64 y]] w fun e w' => e = .returned (.agg #[.int .i64 (cutI x (-40) 40), .int .i64 (cutI y (-40) 40)]) ∧ Below w.heap.size w w' := by
  have C1 := Lib.hid (fun W => Cut_any x (-40) 40 W (by omega) (by omega) (by omega))
  have C2 := Lib.hid (fun W => Cut_any y (-40) 40 W (by omega) (by omega) (by omega))
  generalize cutI x (-40) 40 = x0 at *
  generalize cutI y (-40) 40 = y0 at *
  obtain ⟨W0, hW0, gv, gp, hb0⟩ : ∃ W0, (w.alloc (.cells #[.int .i64 x, .int .i64 y] 27)).alloc (.cells #[.int .i64 0, .int .i64 0] 27) = W0 ∧ W0.heap[w.heap.size]? = some (.cells #[.int .i64 x, .int .i64 y] 27 (0, 0)) ∧ W0.heap[w.heap.size + 1]? = some (.cells #[.int .i64 0, .int .i64 0] 27 (0, 0)) ∧ Below w.heap.size w W0 :=
    ⟨_, rfl, (Below.heap_alloc _ _ w.heap.size (by simp)).trans (heap_alloc_new w _), by have := heap_alloc_new (w.alloc (.cells #[.int .i64 x, .int .i64 y] 27)) (.cells #[.int .i64 0, .int .i64 0] 27); simpa using this, ((Below.refl _ w).alloc (Nat.le_refl _) _).alloc (by simp) _⟩
  have v0 := cell_of_row W0 w.heap.size 0 _ 27 (0, 0) gv
  have v1 := cell_of_row W0 w.heap.size 1 _ 27 (0, 0) gv
  have p0 := cell_of_row W0 (w.heap.size + 1) 0 _ 27 (0, 0) gp
  have p1 := cell_of_row W0 (w.heap.size + 1) 1 _ 27 (0, 0) gp
  have f0 := frozen_of_row W0 (w.heap.size + 1) 0 _ 27 gp
  have f1 := frozen_of_row W0 (w.heap.size + 1) 1 _ 27 gp
  go_enter Try.func17, Try.ntmps17
  go_wp2
  refine wp_region_still_tail 7 (by kernel_rfl) (by kernel_rfl) ?_
  simp only [List.take_succ_cons, List.take_zero, List.drop_succ_cons, List.drop_zero]
  still_step
  still_step
  still_call ((C1.out _).mono fun _ _ h => ⟨h.1, h.2.symm⟩)
  still_step
  still_step
  still_call ((C2.out _).mono fun _ _ h => ⟨h.1, h.2.symm⟩)
  still_step
  refine wpStill_nil ?_
  change wpList _ _ _ _ _ W0.drew
  go_wp2
  refine bodyPost_ret (v := .agg #[.int .i64 x0, .int .i64 y0]) (by simp [results, Try.results17, go_sem, p0, p1]) rfl ⟨rfl, ?_⟩
  exact ((hb0.setCell (p := ⟨w.heap.size + 1, 0, none⟩) (by show w.heap.size ≤ w.heap.size + 1; omega) _).setCell (p := ⟨w.heap.size + 1, 1, none⟩) (by show w.heap.size ≤ w.heap.size + 1; omega) _).drew

theorem Line_move (x1 y1 x2 y2 mx my : Int) (h1 : -40 ≤ x1 ∧ x1 ≤ 40) (h2 : -40 ≤ y1 ∧ y1 ≤ 40) (h3 : -40 ≤ x2 ∧ x2 ≤ 40) (h4 : -40 ≤ y2 ∧ y2 ≤ 40) (h5 : -40 ≤ mx ∧ mx ≤ 40) (h6 : -40 ≤ my ∧ my ≤ 40) :
    ∃ (n : Nat) (F : Nat → Int × Int), 1 ≤ n ∧ n ≤ 5000 ∧ (∀ i, i < n → (-200000000 ≤ (F i).1 ∧ (F i).1 ≤ 200000000) ∧ -200000000 ≤ (F i).2 ∧ (F i).2 ≤ 200000000) ∧ LineS x1 y1 x2 y2 n 0 F ∧ LineS (x1 + mx) (y1 + my) (x2 + mx) (y2 + my) n 0 (fun i => ((F i).1 + mx, (F i).2 + my)) := by
  have fa : ∀ x y : Int, -80 ≤ x → x ≤ 80 → -80 ≤ y → y ≤ 80 → farB x y = false := fun x y a b c d => by
    unfold farB
    simp only [Bool.or_eq_false_iff, decide_eq_false_iff_not]
    omega
  obtain ⟨N, hN⟩ : ∃ N : Nat, (N : Int) = lnN (x2 - x1) (y2 - y1) := ⟨(lnN (x2 - x1) (y2 - y1)).toNat, by have := lnN_nonneg (x2 - x1) (y2 - y1); omega⟩
  have hN4 : N ≤ 4000 := by unfold lnN at hN; omega
  refine ⟨N + 1, lnF x1 y1 (x2 - x1) (y2 - y1) N, by omega, by omega, fun i hi => ?_, fun w => Line_ok x1 y1 x2 y2 N w (fa _ _ (by omega) (by omega) (by omega) (by omega)) (fa _ _ (by omega) (by omega) (by omega) (by omega)) hN, fun w => ?_⟩
  · have m1 := mul_abs (k := i) (d := x2 - x1) (by omega) (by omega) (by omega) (by omega)
    have m2 := mul_abs (k := i) (d := y2 - y1) (by omega) (by omega) (by omega) (by omega)
    have e1 : 2 * (i : Int) * (x2 - x1) = 2 * ((i : Int) * (x2 - x1)) := Int.mul_assoc _ _ _
    have e2 : 2 * (i : Int) * (y2 - y1) = 2 * ((i : Int) * (y2 - y1)) := Int.mul_assoc _ _ _
    unfold lnF
    simp only [e1, e2]
    by_cases hz : N = 0
    · subst hz
      have hi0 : i = 0 := by omega
      subst hi0
      simp
      omega
    · have q1 := div_bd (a := 2 * ((i : Int) * (x2 - x1)) + N) (n := N) (by omega) (by omega) (by omega)
      have q2 := div_bd (a := 2 * ((i : Int) * (y2 - y1)) + N) (n := N) (by omega) (by omega) (by omega)
      omega
  · have h := Line_ok (x1 + mx) (y1 + my) (x2 + mx) (y2 + my) N w (fa _ _ (by omega) (by omega) (by omega) (by omega)) (fa _ _ (by omega) (by omega) (by omega) (by omega)) (by rw [hN]; congr 1 <;> omega)
    have e : lnF (x1 + mx) (y1 + my) (x2 + mx - (x1 + mx)) (y2 + my - (y1 + my)) N = fun i => ((lnF x1 y1 (x2 - x1) (y2 - y1) N i).1 + mx, (lnF x1 y1 (x2 - x1) (y2 - y1) N i).2 + my) := by
      funext i
      unfold lnF
      rw [show x2 + mx - (x1 + mx) = x2 - x1 by omega, show y2 + my - (y1 + my) = y2 - y1 by omega]
      exact Prod.ext (by show _ + mx + _ = _ + _ + mx; omega) (by show _ + my + _ = _ + _ + my; omega)
    rw [e] at h
    exact h

def mixG (A B : Nat → Int × Int) (k i : Nat) : List Value := if i < k then ptRow A i else ptRow B i
theorem mixG_len (A B : Nat → Int × Int) (k i : Nat) : (mixG A B k i).length = 2 := by
  unfold mixG
  split <;> rfl
theorem mixG_set (A B : Nat → Int × Int) {k n : Nat} (hk : k < n) : ((flatR (mixG A B k) n).set (k * 2) (.int .i64 (A k).1)).set (k * 2 + 1) (.int .i64 (A k).2) = flatR (mixG A B (k + 1)) n := by
  have h1 := flatR_set (row := mixG A B k) (n := n) (k := 2) (by decide) (fun i _ => mixG_len A B k i) k 0 hk (by decide) (.int .i64 (A k).1)
  have h2 := flatR_set (row := fun x => if x = k then (mixG A B k k).set 0 (.int .i64 (A k).1) else mixG A B k x) (n := n) (k := 2) (by decide) (fun i _ => by
    by_cases e : i = k
    · simp only [e, if_true, List.length_set]; exact mixG_len A B k k
    · simp only [e, if_false]; exact mixG_len A B k i) k 1 hk (by decide) (.int .i64 (A k).2)
  rw [show k * 2 = k * 2 + 0 from rfl, h1, show k * 2 + 0 + 1 = k * 2 + 1 from rfl, h2]
  congr 1
  funext x
  by_cases e : x = k
  · subst e
    simp [mixG, ptRow]
  · simp only [e, if_false]
    unfold mixG
    by_cases c : x < k
    · rw [if_pos c, if_pos (by omega)]
    · rw [if_neg c, if_neg (by omega)]
end Go.Proofs.Ytlkdjnmehnibmaa
