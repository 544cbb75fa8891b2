/- Strings in order: cmp.Compare; the order as a relation. -/
import Derived.Test.YtdmecagdjbjgjaaMem
import Derived.Sort.Walk0
namespace Go.Proofs.Ytdmecagdjbjgjaa
open Go.RowKit

/-- x before y. -/
def lsS (x y : ByteArray) : Bool := Op.bytesLess x.toList y.toList
def cmpS (x y : ByteArray) : Int := if lsS x y = true then -1 else if x = y then 0 else 1

theorem ba_ext {x y : ByteArray} (h : x.toList = y.toList) : x = y := by
  rw [ByteArray.toList_eq, ByteArray.toList_eq] at h
  cases x; cases y
  simp at h
  rw [h]
theorem lsS_iff {x y : ByteArray} : lsS x y = true ↔ x.toList < y.toList := by
  unfold lsS; rw [bytesLess_eq, decide_eq_true_eq]
theorem lsS_irr (x : ByteArray) : lsS x x = false := by
  rw [Bool.eq_false_iff]; intro h; exact List.lt_irrefl _ (lsS_iff.1 h)
theorem lsS_tr {x y z : ByteArray} (h1 : lsS x y = true) (h2 : lsS y z = true) : lsS x z = true := lsS_iff.2 (List.lt_trans (lsS_iff.1 h1) (lsS_iff.1 h2))
theorem lsS_anti {x y : ByteArray} (h1 : lsS x y = false) (h2 : lsS y x = false) : x = y := by
  rw [Bool.eq_false_iff] at h1 h2
  refine ba_ext ?_
  have a1 : ¬ x.toList < y.toList := fun h => h1 (lsS_iff.2 h)
  have a2 : ¬ y.toList < x.toList := fun h => h2 (lsS_iff.2 h)
  exact List.le_antisymm (List.not_lt.1 a2) (List.not_lt.1 a1)
theorem lsS_asymm {x y : ByteArray} (h1 : lsS x y = true) : lsS y x = false := by
  rw [Bool.eq_false_iff]; intro h2
  have := lsS_tr h1 h2
  rw [lsS_irr] at this; cases this
theorem cmpS_lt {x y : ByteArray} : cmpS x y < 0 ↔ lsS x y = true := by
  unfold cmpS
  by_cases h : lsS x y = true
  · simp [h]
  · rw [if_neg h]
    by_cases e : x = y
    · rw [if_pos e]; simp [h]
    · rw [if_neg e]; simp [h]
theorem cmpS_eq {x y : ByteArray} : cmpS x y = 0 ↔ x = y := by
  unfold cmpS
  by_cases h : lsS x y = true
  · rw [if_pos h]
    refine ⟨fun h' => by omega, fun e => ?_⟩
    subst e; rw [lsS_irr] at h; cases h
  · rw [if_neg h]
    by_cases e : x = y
    · rw [if_pos e]; simp [e]
    · rw [if_neg e]; simp [e]
theorem ba_beq {x y : ByteArray} : (x.toList == y.toList) = decide (x = y) := by
  by_cases h : x = y
  · subst h; simp
  · have : ¬ x.toList = y.toList := fun e => h (ba_ext e)
    simp [h, this]

set_option maxHeartbeats 400000 in
theorem isNaN_any (x : ByteArray) (w : World) : Calls Try.prog 57 #[.string x] w fun e w' => e = .returned (.bool false) ∧ w = w' := by
  go_enter Try.func57, Try.ntmps57
  go_wp2
  go_ret
  exact ⟨rfl, rfl⟩

set_option maxHeartbeats 1000000 in
theorem Compare_any (x y : ByteArray) (w : World) : Calls Try.prog 37 #[.string x, .string y] w fun e w' => e = .returned (.int .i64 (cmpS x y)) ∧ w = w' := by
  by_cases h1 : lsS x y = true
  · have HR := Lib.hid (show cmpS x y = -1 by unfold cmpS; rw [if_pos h1])
    have l1 : Op.bytesLess x.toList y.toList = true := h1
    clear h1
    go_enter Try.func37, Try.ntmps37
    go_wp2_with (go_at_call 57; refine (isNaN_any _ _).mono ?_; rintro e w' ⟨rfl, rfl⟩)
    go_ret
    exact ⟨by rw [HR.out]; rfl, rfl⟩
  · have l1 : Op.bytesLess x.toList y.toList = false := by simpa [lsS] using h1
    by_cases h2 : x = y
    · subst h2
      have HR := Lib.hid (show cmpS x x = 0 by unfold cmpS; rw [if_neg h1, if_pos rfl])
      clear h1
      go_enter Try.func37, Try.ntmps37
      go_wp2_with (go_at_call 57; refine (isNaN_any _ _).mono ?_; rintro e w' ⟨rfl, rfl⟩)
      go_ret
      exact ⟨by rw [HR.out]; rfl, rfl⟩
    · have HR := Lib.hid (show cmpS x y = 1 by unfold cmpS; rw [if_neg h1, if_neg h2])
      have l2 : (x.toList == y.toList) = false := by rw [ba_beq]; simp [h2]
      clear h1 h2
      go_enter Try.func37, Try.ntmps37
      go_wp2_with (go_at_call 57; refine (isNaN_any _ _).mono ?_; rintro e w' ⟨rfl, rfl⟩)
      go_ret
      exact ⟨by rw [HR.out]; rfl, rfl⟩

end Go.Proofs.Ytdmecagdjbjgjaa
