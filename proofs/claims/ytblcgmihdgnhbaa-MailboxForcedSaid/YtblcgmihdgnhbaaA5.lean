/- mailboxFact. -/
import Derived.Test.YtblcgmihdgnhbaaA4
namespace Go.Proofs.Ytblcgmihdgnhbaa
open Go.RowKit

theorem fact_ls : (lsOf (cq (fun i : Nat => (i : Int) + 1) 7) 2 2 = [1]) ∧ (∀ q, 2 < q → q < 8 → lsOf (cq (fun i : Nat => (i : Int) + 1) 7) 2 q = []) := by
  refine ⟨by decide, fun q h1 h2 => ?_⟩
  have h : q = 3 ∨ q = 4 ∨ q = 5 ∨ q = 6 ∨ q = 7 := by omega
  rcases h with rfl | rfl | rfl | rfl | rfl <;> decide

theorem fact_sl (w : World) : Sl (w.alloc (.cells #[.int .i64 1, .int .i64 2] 3 (0, 0))) (w.alloc (.cells #[.int .i64 1, .int .i64 2] 3 (0, 0))).heap.size 1 (some ⟨w.heap.size, 0, none⟩) 2 (fun i => [.int .i64 ((i : Int) + 1)]) := by
  intro _
  refine ⟨w.heap.size, 0, rfl, by rw [World.size_alloc]; omega, fun i hi j u hu => ?_⟩
  rw [cell_of_row _ _ _ _ _ _ (heap_alloc_new w _)]
  have h : i = 0 ∨ i = 1 := by omega
  match j, hu with
  | 0, hu => rcases h with rfl | rfl <;> (simp at hu; simp [← hu])
  | j + 1, hu => simp at hu

theorem fact_cut : cutI 2 1 12 = ((3 : Nat) : Int) := by decide

theorem fact_box (w : World) : Calls Try.prog 12 #[.int .i64 2, .slice (some ⟨w.heap.size, 0, none⟩) 2 2] (w.alloc (.cells #[.int .i64 1, .int .i64 2] 3 (0, 0))) fun e w' => ∃ vs C, e = .returned (.pointer (some ⟨w.heap.size + 1, 0, none⟩)) ∧
    BoxAt (w.heap.size + 1) 3 2 vs (lsOf (cq (fun i : Nat => (i : Int) + 1) 7) 2) C w' ∧ Below (w.heap.size + 1) (w.alloc (.cells #[.int .i64 1, .int .i64 2] 3 (0, 0))) w' := by
  have h := boxOf_any 2 (some ⟨w.heap.size, 0, none⟩) 2 2 2 3 (fun i : Nat => (i : Int) + 1) _ (fact_sl w) (by omega) (by unfold maxLen; omega) (by omega) fact_cut (by omega) (by omega)
  rw [World.size_alloc] at h
  exact h

set_option maxRecDepth 100000 in
set_option maxHeartbeats 400000 in
theorem fact_any (w : World) : Calls Try.prog 7 #[] w fun e w' => e = .returned (.bool true) ∧ Below w.heap.size w w' := by
  have H0 := Lib.hid (fact_box w)
  go_enter Try.func7, Try.ntmps7
  go_wp2_with (first
    | (go_at_call 12; refine H0.out.mono ?_; rintro e w1 ⟨vs, C, rfl, hB1, hb1⟩)
    | (go_at_call 11; refine (Get_ok hB1 2 1 [] (by omega) fact_ls.1 fact_ls.2 (by omega) (by omega) (by simp)).mono ?_; rintro e w2 ⟨vs2, C2, rfl, hB2, hb2⟩)
    | (go_at_call 10; refine (Count_any hB2).mono ?_; rintro e w3 ⟨rfl, rfl⟩))
  all_goals go_ret
  all_goals exact ⟨rfl, (((Below.refl _ _).alloc (Nat.le_refl _) _).trans (hb1.mono (by omega))).trans (hb2.mono (by omega))⟩
end Go.Proofs.Ytblcgmihdgnhbaa
