/- Strings in order: cmp.Compare; the order as a relation. -/
import Derived.Test.YtjmdebeffpdpcaaGreatDoorMem
import Derived.Sort.Walk0
namespace Go.Proofs.YtjmdebeffpdpcaaGreatDoor
open Go.RowKit

/-- x before y. -/
def lsS (x y : ByteArray) : Bool := Op.bytesLess x.toList y.toList
def cmpS (x y : ByteArray) : Int := if lsS x y = true then -1 else if x = y then 0 else 1

theorem ba_ext {x y : ByteArray} (h : x.toList = y.toList) : x = y := by
  rw [ByteArray.toList_eq, ByteArray.toList_eq] at h
  cases x; cases y
  simp at h
  rw [h]
theorem lsS_iff {x y : ByteArray} : lsS x y = true ↔ x.toList < y.toList := by
  unfold lsS; rw [bytesLess_eq, decide_eq_true_eq]
theorem lsS_irr (x : ByteArray) : lsS x x = false := by
  rw [Bool.eq_false_iff]; intro h; exact List.lt_irrefl _ (lsS_iff.1 h)
theorem lsS_tr {x y z : ByteArray} (h1 : lsS x y = true) (h2 : lsS y z = true) : lsS x z = true := lsS_iff.2 (List.lt_trans (lsS_iff.1 h1) (lsS_iff.1 h2))
theorem lsS_anti {x y : ByteArray} (h1 : lsS x y = false) (h2 : lsS y x = false) : x = y := by
  rw [Bool.eq_false_iff] at h1 h2
  refine ba_ext ?_
  have a1 : ¬ x.toList < y.toList := fun h => h1 (lsS_iff.2 h)
  have a2 : ¬ y.toList < x.toList := fun h => h2 (lsS_iff.2 h)
  exact List.le_antisymm (List.not_lt.1 a2) (List.not_lt.1 a1)
theorem lsS_asymm {x y : ByteArray} (h1 : lsS x y = true) : lsS y x = false := by
  rw [Bool.eq_false_iff]; intro h2
  have := lsS_tr h1 h2
  rw [lsS_irr] at this; cases this
theorem cmpS_lt {x y : ByteArray} : cmpS x y < 0 ↔ lsS x y = true := by
  unfold cmpS
  by_cases h : lsS x y = true
  · simp [h]
  · rw [if_neg h]
    by_cases e : x = y
    · rw [if_pos e]; simp [h]
    · rw [if_neg e]; simp [h]
theorem cmpS_eq {x y : ByteArray} : cmpS x y = 0 ↔ x = y := by
  unfold cmpS
  by_cases h : lsS x y = true
  · rw [if_pos h]
    refine ⟨fun h' => by omega, fun e => ?_⟩
    subst e; rw [lsS_irr] at h; cases h
  · rw [if_neg h]
    by_cases e : x = y
    · rw [if_pos e]; simp [e]
    · rw [if_neg e]; simp [e]
theorem ba_beq {x y : ByteArray} : (x.toList == y.toList) = decide (x = y) := by
  by_cases h : x = y
  · subst h; simp
  · have : ¬ x.toList = y.toList := fun e => h (ba_ext e)
    simp [h, this]



end Go.Proofs.YtjmdebeffpdpcaaGreatDoor
