/- R.Itoa at small numbers. -/
import Derived.Test.YtjiofgfdfljgmaaA7
namespace Go.Proofs.Ytjiofgfdfljgmaa
open Go.RowKit

def SomeStr (w : World) (e : Ending) (w' : World) : Prop := ∃ s : ByteArray, e = .returned (.string s) ∧ s.size ≤ 40 ∧ w = w'

set_option maxRecDepth 100000 in
set_option maxHeartbeats 1000000 in
theorem Itoa_zero (w : World) : Calls Try.prog 21 #[.int .i64 0] w fun e w' => e = .returned (.string { data := #[48] }) ∧ w = w' := by
  go_enter Try.func21, Try.ntmps21
  go_wp2
  go_loop [0, 3] (fun a b => a = .int .i64 (0 : Nat) ∧ (b = .string { data := #[] } ∨ b = .string { data := #[48] })) (fun _ b => match b with | .string s => 1 - s.size | _ => 0)
  case atStart => exact ⟨rfl, .inl rfl⟩
  case round =>
    obtain ⟨rfl, rfl | rfl⟩ := hrel
    · go_wp2
      exact ⟨⟨rfl, .inr rfl⟩, by decide⟩
    · go_wp2
      go_ret
      exact ⟨rfl, rfl⟩

theorem dig_size (r : Nat) (h : r < 10) : (ByteArray.extract { data := #[48, 49, 50, 51, 52, 53, 54, 55, 56, 57] } r (r + 1)).size = 1 := by
  have hh : r = 0 ∨ r = 1 ∨ r = 2 ∨ r = 3 ∨ r = 4 ∨ r = 5 ∨ r = 6 ∨ r = 7 ∨ r = 8 ∨ r = 9 := by omega
  rcases hh with rfl | rfl | rfl | rfl | rfl | rfl | rfl | rfl | rfl | rfl <;> rfl

set_option maxRecDepth 100000 in
set_option maxHeartbeats 2000000 in
theorem Itoa_pos (n : Nat) (w : World) (h1 : 1 ≤ n) (h2 : n ≤ 40) : Calls Try.prog 21 #[.int .i64 (n : Int)] w (SomeStr w) := by
  go_enter Try.func21, Try.ntmps21
  go_wp2
  go_loop [0, 3] (fun a b => ∃ (k : Nat) (s : ByteArray), a = .int .i64 k ∧ b = .string s ∧ s.size + k ≤ 40 ∧ (s.size = 0 → 1 ≤ k)) (fun a _ => (intOf a).toNat)
  case atStart => exact ⟨n, { data := #[] }, rfl, rfl, by show 0 + n ≤ 40; omega, fun _ => h1⟩
  case round =>
    obtain ⟨k, s, rfl, rfl, hs, hk⟩ := hrel
    by_cases hk1 : 1 ≤ k
    · have b1 : decide ((0 : Int) < (k : Int)) = true := by simp; omega
      have hd := dig_size (k % 10) (by omega)
      have HD := Lib.hid hd
      clear hd
      go_wp2
      refine ⟨⟨k / 10, _, by go_num, rfl, ?_, fun h => ?_⟩, by simp [intOf]; omega⟩
      · rw [ByteArray.size_append, HD.out]; omega
      · rw [ByteArray.size_append, HD.out] at h; omega
    · obtain rfl : k = 0 := by omega
      have hne : ¬ s.size = 0 := fun h => by have := hk h; omega
      have e1 : s.toList.isEmpty = false := by
        rw [ByteArray.toList_eq]
        cases hl : s.data.toList with
        | nil => exact absurd (by show s.data.size = 0; rw [← Array.length_toList, hl]; rfl) hne
        | cons _ _ => rfl
      have e2 : (!s.toList.isEmpty) = true := by rw [e1]; rfl
      clear hk
      go_wp2
      go_ret
      exact ⟨s, rfl, by omega, rfl⟩
end Go.Proofs.Ytjiofgfdfljgmaa
