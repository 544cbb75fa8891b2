/- Package clock: Order of nothing. -/
import Derived.Test.YtchpgknaaofapaaA17
import Derived.Outline
namespace Go.Proofs.Ytchpgknaaofapaa
open Go.RowKit Go.Sort

set_option maxHeartbeats 1000000 in
theorem Order_zero (A : Option Addr) (c : Nat) (w : World) (hc : c ≤ maxLen) :
    Calls Try.prog 17 #[.slice A 0 c] w fun e w' => e = .returned (.tuple #[.slice none 0 0, .int .i64 0]) ∧ Below w.heap.size w w' := by
  have hb0 : Below w.heap.size w (w.alloc (.cells #[.slice A 0 c] 22)) := (Below.refl _ _).alloc (Nat.le_refl _) _
  have hcon := Lamport_ok A c [] 0 rfl (w.alloc (.cells #[.slice A 0 c] 22)) (fun h => absurd h (by simp)) (Nat.zero_le _) hc rfl
  have HCON : Hid (Calls Try.prog 12 #[.slice A 0 c] (w.alloc (.cells #[.slice A 0 c] 22)) fun e w' => ∃ A2 c2, e = .returned (.tuple #[.slice A2 0 c2, .int .i64 0]) ∧ Below (w.heap.size + 1) (w.alloc (.cells #[.slice A 0 c] 22)) w') := Lib.hid (hcon.mono (by
    rintro e w2 ⟨v2, rfl, hv2, hb2⟩
    obtain ⟨A2, c2, rfl⟩ := own_shape hv2
    exact ⟨A2, c2, rfl, by simpa using hb2⟩))
  clear hcon
  go_enter Try.func17, Try.ntmps17
  go_wp2_with (go_at_call 12; go_loud (refine HCON.out.mono ?_; rintro e w2 ⟨A2, c2, rfl, hb2⟩; have hz2 := hb2.size; simp at hz2; have c0 : w2.cell? ⟨w.heap.size, 0, none⟩ = some (.slice A 0 c) := (hb2.cell (p := ⟨w.heap.size, 0, none⟩) (by show w.heap.size < _; omega)).trans (cell_of_row _ _ 0 _ 22 (0, 0) (heap_alloc_new w _)); have H2 := Lib.hid hb2; have c0' : (w2.alloc (.cells #[.slice A2 0 c2] 28)).cell? ⟨w.heap.size, 0, none⟩ = some (.slice A 0 c) := (World.cell?_alloc_lt w2 _ ⟨w.heap.size, 0, none⟩ (by show w.heap.size < _; omega)).trans c0; clear hb2))
  have hb3 : Below w.heap.size w (w2.alloc (.cells #[.slice A2 0 c2] 28)) := (hb0.trans (H2.out.mono (by omega))).alloc (by omega) _
  have HB3 := Lib.hid hb3
  clear c0 hb3 hb0
  generalize w2.alloc (.cells #[.slice A2 0 c2] 28) = w3 at *
  go_loop [6, 18] (fun v k => v = .slice none 0 0 ∧ k = .int .i64 (0 : Nat)) (fun _ _ => 0)
  case atStart => exact ⟨rfl, rfl⟩
  case round =>
    obtain ⟨rfl, rfl⟩ := hrel
    go_wp2_with (go_at_call 23; go_loud (refine (SortF_zero none 0 (.func (.func 24) #[] #[.pointer (some ⟨w2.heap.size, 0, none⟩), .pointer (some ⟨w.heap.size, 0, none⟩)]) _).mono ?_; rintro e w6 ⟨rfl, rfl⟩))
    go_ret2
    exact ⟨rfl, HB3.out⟩
end Go.Proofs.Ytchpgknaaofapaa
