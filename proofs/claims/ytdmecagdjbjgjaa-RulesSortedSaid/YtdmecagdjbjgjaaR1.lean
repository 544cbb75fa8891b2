/- Package plane: sums, products, turns, distances; num.Root. -/
import Derived.Test.YtdmecagdjbjgjaaMore
import Derived.Test.YtdmecagdjbjgjaaCut
import Derived.Deep.RegionHeld3
import Derived.Lib.MinMax
namespace Go.Proofs.Ytdmecagdjbjgjaa
open Go.RowKit

theorem mul_bd {a b m : Int} (ha : -m ≤ a ∧ a ≤ m) (hb : -m ≤ b ∧ b ≤ m) : -(m * m) ≤ a * b ∧ a * b ≤ m * m := by
  have h : (a * b).natAbs ≤ m.natAbs * m.natAbs := by
    rw [Int.natAbs_mul]
    exact Nat.mul_le_mul (by omega) (by omega)
  have hm : ((m.natAbs * m.natAbs : Nat) : Int) = m * m := by
    rw [Int.natCast_mul]
    have : (m.natAbs : Int) = m := by omega
    rw [this]
  omega

def ptE (x y : Int) : Int := if -1000000 ≤ x ∧ x ≤ 1000000 ∧ -1000000 ≤ y ∧ y ≤ 1000000 then 0 else 4
theorem ptE_cases (x y : Int) : ptE x y = 0 ∨ ptE x y = 4 := by unfold ptE; split <;> simp
theorem ptE_zero {x y : Int} (h : ptE x y = 0) : (-1000000 ≤ x ∧ x ≤ 1000000) ∧ -1000000 ≤ y ∧ y ≤ 1000000 := by
  unfold ptE at h
  split at h
  · omega
  · cases h
set_option maxRecDepth 100000 in
set_option maxHeartbeats 4000000 in
theorem PCheck_any (x y : Int) (w : World) : Calls Try.prog 23 #[.agg #[.int .i64 x, .int .i64 y]] w fun e w' => e = .returned (.int .i64 (ptE x y)) ∧ Below w.heap.size w w' := by
  have HE : Hid (ptE x y = if -1000000 ≤ x ∧ x ≤ 1000000 ∧ -1000000 ≤ y ∧ y ≤ 1000000 then 0 else 4) := Lib.hid rfl
  generalize ptE x y = r at *
  go_enter Try.func23, Try.ntmps23
  go_wp2
  all_goals
    go_ret
    refine ⟨?_, (Below.refl _ w).alloc (Nat.le_refl _) _⟩
    rw [HE.out]
    split
    all_goals first
      | rfl
      | (exfalso; omega)

abbrev Bd (m x : Int) : Prop := -m ≤ x ∧ x ≤ m

set_option maxRecDepth 100000 in
set_option maxHeartbeats 2000000 in
theorem Sub_any (a b c d : Int) (w : World) (h1 : Bd 10000000 a) (h2 : Bd 10000000 b) (h3 : Bd 10000000 c) (h4 : Bd 10000000 d) : Calls Try.prog 78 #[.agg #[.int .i64 a, .int .i64 b], .agg #[.int .i64 c, .int .i64 d]] w fun e w' => e = .returned (.agg #[.int .i64 (a - c), .int .i64 (b - d)]) ∧ Below w.heap.size w w' := by
  have w1 : IntKind.i64.wrap (a - c) = a - c := IntWalk.i64_in _ (by omega)
  have w2 : IntKind.i64.wrap (b - d) = b - d := IntWalk.i64_in _ (by omega)
  clear h1 h2 h3 h4
  go_enter Try.func78, Try.ntmps78
  go_wp2
  refine bodyPost_ret (v := .agg #[.int .i64 (a - c), .int .i64 (b - d)]) (by simp [results, Try.results78, go_sem]) rfl ⟨rfl, ?_⟩
  exact (((Below.refl _ w).alloc (Nat.le_refl _) _).alloc (by simp) _).alloc (by simp; omega) _

set_option maxRecDepth 100000 in
set_option maxHeartbeats 2000000 in
theorem Cross_any (a b c d : Int) (w : World) (h1 : Bd 10000000 a) (h2 : Bd 10000000 b) (h3 : Bd 10000000 c) (h4 : Bd 10000000 d) : Calls Try.prog 77 #[.agg #[.int .i64 a, .int .i64 b], .agg #[.int .i64 c, .int .i64 d]] w fun e w' => e = .returned (.int .i64 (a * d - b * c)) ∧ Below w.heap.size w w' := by
  have m1 := mul_bd h1 h4
  have m2 := mul_bd h2 h3
  have w1 : IntKind.i64.wrap (a * d) = a * d := IntWalk.i64_in _ (by omega)
  have w2 : IntKind.i64.wrap (b * c) = b * c := IntWalk.i64_in _ (by omega)
  have w3 : IntKind.i64.wrap (a * d - b * c) = a * d - b * c := IntWalk.i64_in _ (by omega)
  clear h1 h2 h3 h4 m1 m2
  go_enter Try.func77, Try.ntmps77
  go_wp2
  go_ret
  exact ⟨rfl, ((Below.refl _ w).alloc (Nat.le_refl _) _).alloc (by simp) _⟩

set_option maxRecDepth 100000 in
set_option maxHeartbeats 2000000 in
theorem Dot_any (a b c d : Int) (w : World) (h1 : Bd 10000000 a) (h2 : Bd 10000000 b) (h3 : Bd 10000000 c) (h4 : Bd 10000000 d) : Calls Try.prog 47 #[.agg #[.int .i64 a, .int .i64 b], .agg #[.int .i64 c, .int .i64 d]] w fun e w' => e = .returned (.int .i64 (a * c + b * d)) ∧ Below w.heap.size w w' := by
  have m1 := mul_bd h1 h3
  have m2 := mul_bd h2 h4
  have w1 : IntKind.i64.wrap (a * c) = a * c := IntWalk.i64_in _ (by omega)
  have w2 : IntKind.i64.wrap (b * d) = b * d := IntWalk.i64_in _ (by omega)
  have w3 : IntKind.i64.wrap (a * c + b * d) = a * c + b * d := IntWalk.i64_in _ (by omega)
  clear h1 h2 h3 h4 m1 m2
  go_enter Try.func47, Try.ntmps47
  go_wp2
  go_ret
  exact ⟨rfl, ((Below.refl _ w).alloc (Nat.le_refl _) _).alloc (by simp) _⟩

def sqI (a b c d : Int) : Int := (a - c) * (a - c) + (b - d) * (b - d)
set_option maxRecDepth 100000 in
set_option maxHeartbeats 2000000 in
theorem Square_any (a b c d : Int) (w : World) (h1 : Bd 1000000 a) (h2 : Bd 1000000 b) (h3 : Bd 1000000 c) (h4 : Bd 1000000 d) : Calls Try.prog 62 #[.agg #[.int .i64 a, .int .i64 b], .agg #[.int .i64 c, .int .i64 d]] w fun e w' => e = .returned (.int .i64 (sqI a b c d)) ∧ Below w.heap.size w w' := by
  have HS := Lib.hid (fun W => Sub_any a b c d W (by omega) (by omega) (by omega) (by omega))
  have HD := Lib.hid (fun W => Dot_any (a - c) (b - d) (a - c) (b - d) W (by omega) (by omega) (by omega) (by omega))
  have HR : Hid (sqI a b c d = (a - c) * (a - c) + (b - d) * (b - d)) := Lib.hid rfl
  clear h1 h2 h3 h4
  rw [← HR.out] at HD
  generalize sqI a b c d = r at *
  clear HR
  generalize a - c = p at *
  generalize b - d = q at *
  go_enter Try.func62, Try.ntmps62
  go_wp2_with (first
    | (go_at_call 78; go_loud (refine (HS.out _).mono ?_; rintro e w1 ⟨rfl, hb1⟩; have HB1 := Lib.hid ((((Below.refl _ w).alloc (Nat.le_refl _) _).alloc (by simp) _).trans (hb1.mono (by simp; omega))); clear hb1))
    | (go_at_call 47; go_loud (refine (HD.out _).mono ?_; rintro e w2 ⟨rfl, hb2⟩)))
  go_ret
  exact ⟨rfl, (HB1.out.alloc HB1.out.size _).trans (hb2.mono (by simp; have := HB1.out.size; omega))⟩

def turnI (a b c d e f : Int) : Int := (c - a) * (f - b) - (d - b) * (e - a)
def sgI (n : Int) : Int := if 0 < n then 1 else if n < 0 then -1 else 0

theorem mul_lt_sq {a b : Int} (ha : 0 ≤ a) (hb : 0 ≤ b) (h : a * a < b * b) : a < b := by
  rcases Int.lt_or_le a b with h1 | h1
  · exact h1
  · have := Int.mul_le_mul h1 h1 hb ha
    omega
/-- What Root answers. -/
def IsRoot (n r : Int) : Prop := 0 ≤ r ∧ r * r ≤ n ∧ n < (r + 1) * (r + 1) ∧ r ≤ 3037000499
set_option maxRecDepth 100000 in
set_option maxHeartbeats 4000000 in
theorem Root_any (n : Int) (w : World) (h0 : 0 ≤ n) (h1 : n ≤ 1000000000000000000) : Calls Try.prog 63 #[.int .i64 n] w fun e w' => (∃ r, e = .returned (.int .i64 r) ∧ IsRoot n r) ∧ w = w' := by
  by_cases hz : n = 0
  · subst hz
    go_enter Try.func63, Try.ntmps63
    go_wp2
    go_ret
    exact ⟨⟨0, rfl, by unfold IsRoot; decide⟩, rfl⟩
  · have hp : ¬ n ≤ 0 := by omega
    have hpd : decide (n ≤ 0) = false := decide_eq_false hp
    have HN := Lib.hid (And.intro h0 h1)
    clear hz hp h0 h1
    go_enter Try.func63, Try.ntmps63
    go_wp2
    go_loop [3, 4] (fun x y => ∃ lo hi : Int, x = .int .i64 lo ∧ y = .int .i64 hi ∧ Hid (0 ≤ lo ∧ lo ≤ hi ∧ hi ≤ 3037000499 ∧ lo * lo ≤ n ∧ n < (hi + 1) * (hi + 1))) (fun x y => (intOf y - intOf x).toNat)
    case atStart => exact ⟨0, 3037000499, rfl, rfl, Lib.hid ⟨by omega, by omega, by omega, by have := HN.out; omega, by have := HN.out; omega⟩⟩
    case round =>
      obtain ⟨lo, hi, rfl, rfl, HI⟩ := hrel
      have hI := HI.out
      by_cases hlt : lo < hi
      · obtain ⟨m, hm, hm1, hm2⟩ : ∃ m : Int, lo + (hi - lo + 1).tdiv 2 = m ∧ lo < m ∧ m ≤ hi := ⟨_, rfl, by rw [Int.tdiv_eq_ediv_of_nonneg (by omega)]; omega, by rw [Int.tdiv_eq_ediv_of_nonneg (by omega)]; omega⟩
        have w1 : IntKind.i64.wrap (hi - lo) = hi - lo := IntWalk.i64_in _ (by omega)
        have w2 : IntKind.i64.wrap (hi - lo + 1) = hi - lo + 1 := IntWalk.i64_in _ (by omega)
        have w3 : IntKind.i64.wrap ((hi - lo + 1).tdiv 2) = (hi - lo + 1).tdiv 2 := IntWalk.i64_in _ (by omega)
        have w4 : IntKind.i64.wrap (lo + (hi - lo + 1).tdiv 2) = m := by rw [hm]; exact IntWalk.i64_in _ (by omega)
        have hmm := mul_bd (m := 3037000499) (a := m) (b := m) (by omega) (by omega)
        have w5 : IntKind.i64.wrap (m * m) = m * m := IntWalk.i64_in _ (by omega)
        have w6 : IntKind.i64.wrap (m - 1) = m - 1 := IntWalk.i64_in _ (by omega)
        have w7 : ((hi - lo + 1) == -9223372036854775808) = false := beq_eq_false_iff_ne.2 (by omega)
        have dl : decide (lo < hi) = true := decide_eq_true hlt
        have HM := Lib.hid (And.intro hm1 hm2)
        by_cases hc : m * m ≤ n
        · have hcd : decide (m * m ≤ n) = true := decide_eq_true hc
          have HC := Lib.hid hc
          clear hm1 hm2 hmm hlt hI hc hm
          go_wp2
          go_round
          case rel => exact ⟨m, hi, rfl, rfl, Lib.hid (by have a := HM.out; have b := HI.out; have c := HC.out; exact ⟨by omega, by omega, by omega, c, b.2.2.2.2⟩)⟩
          case measure => have a := HM.out; simp [intOf]; omega
        · have hcd : decide (m * m ≤ n) = false := decide_eq_false hc
          have HC := Lib.hid hc
          clear hm1 hm2 hmm hlt hI hc hm
          go_wp2
          go_round
          case rel => exact ⟨lo, m - 1, rfl, rfl, Lib.hid (by have a := HM.out; have b := HI.out; have c := HC.out; exact ⟨by omega, by omega, by omega, b.2.2.2.1, by rw [show m - 1 + 1 = m by omega]; omega⟩)⟩
          case measure => have a := HM.out; simp [intOf]; omega
      · obtain rfl : lo = hi := by omega
        have dl : decide (lo < lo) = false := decide_eq_false (by omega)
        clear hlt hI
        go_wp2
        go_ret
        have b := HI.out
        exact ⟨⟨lo, rfl, b.1, b.2.2.2.1, b.2.2.2.2, b.2.2.1⟩, rfl⟩
/-- A distance is at least d exactly if the square is. -/
theorem root_ge {n r d : Int} (h : IsRoot n r) (hd : 0 ≤ d) : d ≤ r ↔ d * d ≤ n := by
  obtain ⟨h0, h1, h2, _⟩ := h
  constructor
  · intro h
    exact Int.le_trans (Int.mul_le_mul h h hd h0) h1
  · intro h
    have := mul_lt_sq hd (show 0 ≤ r + 1 by omega) (by omega)
    omega

set_option maxRecDepth 100000 in
set_option maxHeartbeats 4000000 in
theorem Distance_any (a b c d : Int) (w : World) (h1 : Bd 1000000 a) (h2 : Bd 1000000 b) (h3 : Bd 1000000 c) (h4 : Bd 1000000 d) : Calls Try.prog 45 #[.agg #[.int .i64 a, .int .i64 b], .agg #[.int .i64 c, .int .i64 d]] w fun e w' => (∃ r s, e = .returned (.tuple #[.int .i64 r, .int .i64 s]) ∧ IsRoot (sqI a b c d) r) ∧ Below w.heap.size w w' := by
  have HS := Lib.hid (fun W => Square_any a b c d W h1 h2 h3 h4)
  have m1 := mul_bd (m := 2000000) (a := a - c) (b := a - c) (by omega) (by omega)
  have m2 := mul_bd (m := 2000000) (a := b - d) (b := b - d) (by omega) (by omega)
  have m3 : 0 ≤ (a - c) * (a - c) := by
    rcases Int.le_total 0 (a - c) with h | h
    · exact Int.mul_nonneg h h
    · exact Int.mul_nonneg_of_nonpos_of_nonpos h h
  have m4 : 0 ≤ (b - d) * (b - d) := by
    rcases Int.le_total 0 (b - d) with h | h
    · exact Int.mul_nonneg h h
    · exact Int.mul_nonneg_of_nonpos_of_nonpos h h
  have HR := Lib.hid (fun W => Root_any (sqI a b c d) W (by unfold sqI; omega) (by unfold sqI; omega))
  generalize sqI a b c d = n at *
  clear h1 h2 h3 h4 m1 m2 m3 m4
  go_enter Try.func45, Try.ntmps45
  go_wp2_with (first
    | (go_at_call 62; go_loud (refine (HS.out _).mono ?_; rintro e w1 ⟨rfl, hb1⟩; have HB1 := Lib.hid ((((Below.refl _ w).alloc (Nat.le_refl _) _).alloc (by simp) _).trans (hb1.mono (by simp; omega))); clear hb1))
    | (go_at_call 63; go_loud (refine (HR.out _).mono ?_; rintro e w2 ⟨⟨r, rfl, hr⟩, rfl⟩; have HRt := Lib.hid hr; clear hr)))
  all_goals
    go_ret2
    exact ⟨⟨_, _, rfl, HRt.out⟩, HB1.out⟩
end Go.Proofs.Ytdmecagdjbjgjaa
