/- The fixed example of the approach laws. -/
import Derived.Test.YtmdfdjgeaemicaaA3
import Derived.Test.YtmdfdjgeaemicaaEq
namespace Go.Proofs.Ytmdfdjgeaemicaa
open Go.RowKit

def factIts (i : Nat) : It := if i = 0 then ⟨ByteArray.empty, 0, 100, 150⟩ else ⟨ByteArray.empty, 0, 120, 200⟩
def factG (i : Nat) : Int := if i = 0 then 90 else 0
def factGA : Array Value := #[.int .i64 90, .int .i64 0, .int .i64 0, .int .i64 0, .int .i64 0, .int .i64 0, .int .i64 0, .int .i64 0, .int .i64 0, .int .i64 0, .int .i64 0, .int .i64 0, .int .i64 0, .int .i64 0, .int .i64 0, .int .i64 0]

theorem factGaps : Gaps factGA factG := by
  refine ⟨rfl, fun i hi => ?_⟩
  have h : i = 0 ∨ i = 1 ∨ i = 2 ∨ i = 3 ∨ i = 4 ∨ i = 5 ∨ i = 6 ∨ i = 7 ∨ i = 8 ∨ i = 9 ∨ i = 10 ∨ i = 11 ∨ i = 12 ∨ i = 13 ∨ i = 14 ∨ i = 15 := by omega
  rcases h with rfl | rfl | rfl | rfl | rfl | rfl | rfl | rfl | rfl | rfl | rfl | rfl | rfl | rfl | rfl | rfl <;> rfl

theorem factCode : checkCode 2 factIts factG = 0 := by decide
theorem factT0 : tT factG factIts 0 = 100 := by decide
theorem factT1 : tT factG factIts 1 = 190 := by decide

theorem list2 {w : World} {N B : Nat} {x y : Int} {e : TypeId} (h : w.heap[N]? = some (.cells #[.int .i64 x, .int .i64 y] e (0, 0))) (hB : N < B) : Sl w B 1 (some ⟨N, 0, none⟩) 2 (fun i => [.int .i64 (if i = 0 then x else y)]) := fun _ => by
  refine ⟨N, 0, rfl, hB, fun i hi j v hj => ?_⟩
  rw [cell_of_row _ _ _ _ _ _ h]
  match i, hi, j, hj with
  | 0, _, 0, hj => exact hj
  | 1, _, 0, hj => exact hj

theorem fact_sl {W : World} {N B : Nat} {e : TypeId} (h : W.heap[N]? = some (.cells #[.string ByteArray.empty, .int .i64 0, .int .i64 100, .int .i64 150, .string ByteArray.empty, .int .i64 0, .int .i64 120, .int .i64 200] e (0, 0))) (hB : N < B) :
    Sl W B 4 (some ⟨N, 0, none⟩) 2 (fun i => (factIts i).row) := fun _ => by
  refine ⟨N, 0, rfl, hB, fun i hi j v hj => ?_⟩
  rw [cell_of_row _ _ _ _ _ _ h]
  match i, hi, j, hj with
  | 0, _, 0, hj => exact hj
  | 0, _, 1, hj => exact hj
  | 0, _, 2, hj => exact hj
  | 0, _, 3, hj => exact hj
  | 1, _, 0, hj => exact hj
  | 1, _, 1, hj => exact hj
  | 1, _, 2, hj => exact hj
  | 1, _, 3, hj => exact hj

set_option maxRecDepth 100000 in
set_option maxHeartbeats 1000000 in
theorem fact_any (w : World) : Calls Try.prog 9 #[] w fun e w' => e = .returned (.bool true) ∧ Below w.heap.size w w' := by
  go_enter Try.func9, Try.ntmps9
  go_wp2_with fail
  refine (Times_ok (some ⟨w.heap.size, 0, none⟩) 2 2 factIts factGA factG _ (fact_sl (heap_alloc_new w _) (by simp)) (by decide) factGaps factCode).mono ?_
  rintro e w1 ⟨v, rfl, hown, hb⟩
  obtain ⟨A, c, rfl⟩ := own_shape hown
  have hbw : Below w1.heap.size w1 (w1.alloc (.cells #[.int .i64 100, .int .i64 190] 3)) := (Below.refl _ _).alloc (Nat.le_refl _) _
  have hs1 := ((Sl_ints hown).below hbw).more (Nat.le_succ w1.heap.size)
  have hs2 : Sl (w1.alloc (.cells #[.int .i64 100, .int .i64 190] 3)) (w1.heap.size + 1) 1 (some ⟨w1.heap.size, 0, none⟩) 2 (fun i => [.int .i64 (if i = 0 then 100 else 190)]) := list2 (heap_alloc_new w1 _) (by omega)
  have heq : eqB 2 2 (tT factG factIts) (fun i => if i = 0 then 100 else 190) = true := eqB_true rfl (fun i hi => by
    have h : i = 0 ∨ i = 1 := by omega
    rcases h with rfl | rfl
    · exact factT0
    · exact factT1)
  have HE := Lib.hid heq
  clear heq
  go_wp2_with fail
  refine (Equal_any A _ 2 2 c 2 (w1.heap.size + 1) _ _ _ hs1 hs2 (by omega) (by omega)).mono ?_
  rintro e w2 ⟨rfl, hb2⟩
  rw [HE.out]
  have hb1 := hb
  clear hs1 hs2 hown hb
  go_wp2
  go_ret
  exact ⟨rfl, (((Below.refl _ _).alloc (Nat.le_refl _) _).trans (hb1.mono (by simp))).trans (hbw.trans (hb2.mono (by simp)) |>.mono (by have := hb1.size; simp at this; omega))⟩
end Go.Proofs.Ytmdfdjgeaemicaa
