/- The reference's numerals. -/
import Derived.Test.YtbbklfjgojjlhaaDoorK7
import Derived.Lib.ItoaLen
namespace Go.Proofs.YtbbklfjgojjlhaaDoor
open Go.RowKit
open Go.Lib hiding intOf

theorem dig_at (r : Nat) (h : r < 10) : ByteArray.extract { data := #[48, 49, 50, 51, 52, 53, 54, 55, 56, 57] } r (r + 1) = mk [UInt8.ofNat (48 + r)] := by
  have hh : r = 0 ∨ r = 1 ∨ r = 2 ∨ r = 3 ∨ r = 4 ∨ r = 5 ∨ r = 6 ∨ r = 7 ∨ r = 8 ∨ r = 9 := by omega
  rcases hh with rfl | rfl | rfl | rfl | rfl | rfl | rfl | rfl | rfl | rfl <;> rfl

theorem mk_app (a b : L8) : mk a ++ mk b = mk (a ++ b) := bl_inj (by rw [bl_append, bl_mk, bl_mk, bl_mk])

/-- k is still to be written, s is. -/
def ItoaI (n k : Nat) (s : L8) : Prop := (s = [] ∧ k = n) ∨ (s ≠ [] ∧ decDigits n = (if k = 0 then [] else decDigits k) ++ s)
theorem ItoaI.step {n k : Nat} {s : L8} (h : ItoaI n k s) (hk : 1 ≤ k ∨ s = []) : ItoaI n (k / 10) ([UInt8.ofNat (48 + k % 10)] ++ s) := by
  refine .inr ⟨by simp, ?_⟩
  have hd : decDigits k = (if k / 10 = 0 then [] else decDigits (k / 10)) ++ [UInt8.ofNat (48 + k % 10)] := by
    by_cases h10 : k < 10
    · rw [if_pos (by omega), dd_small h10, Nat.mod_eq_of_lt h10]; rfl
    · rw [if_neg (by omega), decDigits_big h10]
  rcases h with ⟨rfl, rfl⟩ | ⟨hs, he⟩
  · rw [hd, List.append_nil]
  · rcases hk with hk | hk
    · rw [he, if_neg (by omega), hd, List.append_assoc]
    · exact absurd hk hs

set_option maxRecDepth 100000 in
set_option maxHeartbeats 2000000 in
theorem Itoa_ref (n : Nat) (w : World) (hn : n ≤ 1000000) : Calls Tryd.prog 13 #[.int .i64 (n : Int)] w fun e w' => e = .returned (.string (mk (decDigits n))) ∧ w = w' := by
  have hlen : (decDigits n).length ≤ 21 := by
    have := itoa_length_le (n : Int) (by omega) (by omega)
    rwa [itoa_nonneg] at this
  have HLen := Lib.hid hlen
  clear hlen
  go_enter Tryd.func13, Tryd.ntmps13
  go_wp2
  go_loop [0, 3] (fun a b => ∃ (k : Nat) (s : L8), a = .int .i64 (k : Int) ∧ b = .string (mk s) ∧ k ≤ 1000000 ∧ Hid (ItoaI n k s)) (fun a b => match b with | .string s => (intOf a).toNat + (if s.size = 0 then 1 else 0) | _ => 0)
  case atStart => exact ⟨n, [], rfl, rfl, hn, Lib.hid (.inl ⟨rfl, rfl⟩)⟩
  case round =>
    obtain ⟨k, s, rfl, rfl, hk, HI⟩ := hrel
    have hsl : (mk s).size ≤ 21 := by
      rw [size_mk]
      rcases HI.out with ⟨h1, _⟩ | ⟨_, h2⟩
      · rw [h1]; decide
      · have := HLen.out
        rw [h2, List.length_append] at this
        omega
    by_cases hk1 : 1 ≤ k
    · have b1 : decide ((0 : Int) < (k : Int)) = true := by simp; omega
      have HD := Lib.hid (dig_at (k % 10) (by omega))
      have HS := Lib.hid (HI.out.step (.inl hk1))
      have hds : (mk [UInt8.ofNat (48 + k % 10)]).size = 1 := rfl
      go_wp2
      have hsz : ¬ (mk ([UInt8.ofNat (48 + k % 10)] ++ s)).size = 0 := by rw [size_mk]; simp
      rw [HD.out, mk_app]
      refine ⟨⟨k / 10, [UInt8.ofNat (48 + k % 10)] ++ s, by go_num, rfl, by omega, HS⟩, ?_⟩
      simp only [intOf]
      rw [if_neg hsz]
      split <;> omega
    · obtain rfl : k = 0 := by omega
      have b1 : decide ((0 : Int) < ((0 : Nat) : Int)) = false := by decide
      by_cases hs : s = []
      · subst hs
        have HD := Lib.hid (dig_at 0 (by omega))
        have HS := Lib.hid (HI.out.step (.inr rfl))
        rw [show mk ([] : L8) = { data := #[] } from rfl]
        go_wp2
        rw [HD.out]
        refine ⟨⟨0, [UInt8.ofNat (48 + 0)], by go_num, rfl, by omega, HS⟩, ?_⟩
        decide
      · have hm : (mk s).toList = s := toList_mk s
        have e1 : (mk s).toList.isEmpty = false := by
          rw [hm]
          cases s with
          | nil => exact absurd rfl hs
          | cons _ _ => rfl
        have e2 : (mk s).toList ≠ [] := by rw [hm]; exact hs
        have e3 : ((mk s).toList == []) = false := by rw [hm]; cases s with | nil => exact absurd rfl hs | cons _ _ => rfl
        have HF := Lib.hid (show decDigits n = s by
          rcases HI.out with ⟨h1, _⟩ | ⟨_, h2⟩
          · exact absurd h1 hs
          · rw [h2]; rfl)
        clear hm
        go_wp2
        go_ret
        exact ⟨by rw [HF.out]; rfl, rfl⟩

/-- The statement's own text of a number. -/
theorem text_any (n : Int) (w : World) (h0 : -1000000 ≤ n) (h1 : n ≤ 1000000) : Calls Tryd.prog 12 #[.int .i64 n] w fun e w' => e = .returned (.string (mk (itoa n))) ∧ w = w' := by
  by_cases hn : n < 0
  · obtain ⟨k, hk⟩ : ∃ k : Nat, n = -(k : Int) := ⟨(-n).toNat, by omega⟩
    have HI := Lib.hid (Itoa_ref k w (by omega))
    have HE := Lib.hid (show mk (itoa n) = ({ data := #[45] } : ByteArray) ++ mk (decDigits k) by
      rw [hk, itoa_neg k (by omega)]
      exact (mk_app [45] (decDigits k)).symm)
    have hw : IntKind.i64.wrap (-n) = (k : Int) := by rw [IntWalk.i64_in _ (by omega)]; omega
    have hsz : (mk (decDigits k)).size ≤ 21 := by
      have := itoa_length_le (k : Int) (by omega) (by omega)
      rw [itoa_nonneg] at this
      rw [size_mk]; exact this
    clear hk
    go_enter Tryd.func12, Tryd.ntmps12
    go_wp2_with (go_at_call 13; go_loud (refine HI.out.mono ?_; rintro e w1 ⟨rfl, rfl⟩))
    go_ret
    exact ⟨by rw [HE.out]; rfl, rfl⟩
  · obtain ⟨k, rfl⟩ : ∃ k : Nat, n = (k : Int) := ⟨n.toNat, by omega⟩
    have HI := Lib.hid (Itoa_ref k w (by omega))
    have HE := Lib.hid (show mk (itoa (k : Int)) = mk (decDigits k) by rw [itoa_nonneg])
    have hd : decide ((k : Int) < 0) = false := by simp
    clear hn
    go_enter Tryd.func12, Tryd.ntmps12
    go_wp2_with (go_at_call 13; go_loud (refine HI.out.mono ?_; rintro e w1 ⟨rfl, rfl⟩))
    go_ret
    exact ⟨by rw [HE.out]; rfl, rfl⟩
end Go.Proofs.YtbbklfjgojjlhaaDoor
