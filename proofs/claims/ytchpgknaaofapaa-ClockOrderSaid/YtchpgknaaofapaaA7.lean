/- clockFact returns true. -/
import Derived.Test.YtchpgknaaofapaaA6
import Derived.Deep.DeepMust
namespace Go.Proofs.Ytchpgknaaofapaa
open Go.RowKit

def exL : List Ev := [(0, 1, 5), (1, 2, 5)]
theorem ex_code : checkE exL = 0 := by decide
theorem ex_l0 : LvE exL 0 = 1 := by decide
theorem ex_l1 : LvE exL 1 = 2 := by decide

theorem ex_at {w : World} {b B : Nat} (h : w.heap[b]? = some (.cells #[.int .i64 0, .int .i64 1, .int .i64 5, .int .i64 1, .int .i64 2, .int .i64 5] 34 (0, 0))) (hB : b < B) : EvsAt w B (some ⟨b, 0, none⟩) exL := by
  intro _
  refine ⟨b, 0, rfl, hB, fun i hi j v hj => ?_⟩
  have hi' : i = 0 ∨ i = 1 := by simp [exL] at hi; omega
  have hj' : j < 3 := by
    rcases hi' with rfl | rfl <;> (rcases Nat.lt_or_ge j 3 with h | h; exact h; rw [List.getElem?_eq_none (by simpa [evV] using h)] at hj; cases hj)
  have hjj : j = 0 ∨ j = 1 ∨ j = 2 := by omega
  rcases hi' with rfl | rfl <;> rcases hjj with rfl | rfl | rfl <;> (cases hj; exact (cell_of_row w b _ _ 34 (0, 0) h).trans rfl)

theorem ints2_at {w : World} {b B : Nat} (h : w.heap[b]? = some (.cells #[.int .i64 1, .int .i64 2] 3 (0, 0))) (hB : b < B) : Sl w B 1 (some ⟨b, 0, none⟩) 2 (fun i => [.int .i64 ((fun k : Nat => (k : Int) + 1) i)]) := by
  intro _
  refine ⟨b, 0, rfl, hB, fun i hi j v hj => ?_⟩
  have hj0 : j = 0 := by
    rcases Nat.eq_zero_or_pos j with h | h
    · exact h
    · rw [List.getElem?_eq_none (by simp; omega)] at hj; cases hj
  subst hj0
  have hi' : i = 0 ∨ i = 1 := by omega
  rcases hi' with rfl | rfl <;> (cases hj; exact (cell_of_row w b _ _ 3 (0, 0) h).trans rfl)

theorem ex_eq : eqB 2 2 (LvE exL) (fun k => (k : Int) + 1) = true := eqB_true rfl (fun i hi => by
  have hh : i = 0 ∨ i = 1 := by omega
  rcases hh with rfl | rfl
  · exact ex_l0
  · exact ex_l1)

set_option maxRecDepth 100000 in
set_option maxHeartbeats 1000000 in
theorem fact_any (w : World) : Calls Try.prog 9 #[] w fun e w' => e = .returned (.bool true) ∧ Below w.heap.size w w' := by
  have hcon := fun (W : World) (b : Nat) (h : W.heap[b]? = some (.cells #[.int .i64 0, .int .i64 1, .int .i64 5, .int .i64 1, .int .i64 2, .int .i64 5] 34 (0, 0))) =>
    Lamport_ok (some ⟨b, 0, none⟩) 2 exL 2 rfl W (ex_at h (by exact (Array.getElem?_eq_some_iff.1 h).1)) (by decide) (by decide) ex_code
  have HCN := Lib.hid hcon
  clear hcon
  go_enter Try.func9, Try.ntmps9
  go_wp2_with (first
    | (go_at_call 12; refine (HCN.out _ w.heap.size (heap_alloc_new w _)).mono ?_; rintro e w1 ⟨v, rfl, hv, hb1⟩; obtain ⟨A, c, rfl⟩ := own_shape hv; have HV := Lib.hid hv; clear hv)
    | (go_at_call 13; go_loud (refine (Equal_any A (some ⟨w1.heap.size, 0, none⟩) 2 2 c 2 (w1.heap.size + 1) (LvE exL) (fun k => (k : Int) + 1) _ (((Sl_ints HV.out).below ((Below.refl _ _).alloc (Nat.le_refl _) _)).more (by omega)) (ints2_at (heap_alloc_new w1 _) (by omega)) (by decide) (by decide)).mono ?_; rintro e w2 ⟨he2, hb2⟩; rw [ex_eq] at he2; subst he2)))
  go_ret
  refine ⟨rfl, ?_⟩
  have hz1 : w.heap.size + 1 ≤ w1.heap.size := by have := hb1.size; simpa using this
  exact (((Below.refl _ _).alloc (Nat.le_refl _) _).trans (hb1.mono (by simp))).alloc (by omega) _ |>.trans (hb2.mono (by simp; omega))
end Go.Proofs.Ytchpgknaaofapaa
