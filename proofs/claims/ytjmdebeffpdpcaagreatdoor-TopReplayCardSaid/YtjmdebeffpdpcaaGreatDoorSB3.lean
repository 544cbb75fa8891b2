/- The walk of SnapshotGets. -/
import Derived.Test.YtjmdebeffpdpcaaGreatDoorSA5
namespace Go.Proofs.YtjmdebeffpdpcaaGreatDoor
open Go.RowKit

theorem fine_small {l : List Rw} (h : Fine l) : ∀ x ∈ l, x.1.size ≤ 12 ∧ x.2.size ≤ 40 := fun x hx => by
  obtain ⟨h1, h2⟩ := h.key x hx
  unfold keyB at h1
  unfold valB at h2
  simp only [Bool.and_eq_true, decide_eq_true_eq] at h1 h2
  exact ⟨h1.1.2, h2.1⟩
theorem small_max {l : List Rw} (h : Fine l) : ∀ x ∈ l, x.1.size ≤ maxLen ∧ x.2.size ≤ maxLen := fun x hx => by
  obtain ⟨a, b⟩ := fine_small h x hx
  simp only [maxLen]
  omega
theorem setC_zero {l : List Rw} {t v : ByteArray} (h : setC l t v = 0) : Fine l ∧ keyB t = true ∧ valB v = true ∧ (putK key1 l (t, v)).length ≤ 64 := by
  unfold setC at h
  by_cases hc : checkL l = 0
  · rw [if_neg (by simpa using hc)] at h
    cases hkv : (keyB t && valB v) with
    | false => rw [hkv] at h; cases h
    | true =>
      rw [hkv] at h
      by_cases h64 : 64 < (putK key1 l (t, v)).length
      · rw [if_pos h64] at h; cases h
      · simp only [Bool.and_eq_true] at hkv
        exact ⟨fine_of hc, hkv.1, hkv.2, by omega⟩
  · rw [if_pos hc] at h; exact absurd h hc
theorem put_fine {l : List Rw} {t v : ByteArray} (h : setC l t v = 0) : Fine (putK key1 l (t, v)) := by
  obtain ⟨h1, h2, h3, h4⟩ := setC_zero h
  refine ⟨h4, fun x hx => ?_, putK_sorted h1.sorted _⟩
  rcases (putK_mem h1.sorted).1 hx with rfl | ⟨hx, _⟩
  · exact ⟨h2, h3⟩
  · exact h1.key x hx
theorem cut_fine {l : List Rw} (h : Fine l) (t : ByteArray) : Fine (cutK key1 l t) := by
  have hs := cutK_sub (k := key1) l t
  exact ⟨Nat.le_trans hs.length_le h.len, fun x hx => h.key x (hs.subset hx), cutK_sorted h.sorted t⟩
theorem getL_fine {l : List Rw} (h : Fine l) (t : ByteArray) : getL l t = match getK key1 l t with | some x => (x.2, 0) | none => (ByteArray.empty, 8) := by
  unfold getL
  rw [if_neg (by simpa using fine_check h)]
  cases getK key1 l t <;> rfl
theorem has_of_get {l : List Rw} (h : Fine l) {t : ByteArray} {x : Rw} (hg : getK key1 l t = some x) : hasK key1 l t = true := by
  rw [getK_eq h.sorted] at hg
  cases hh : hasK key1 l t with
  | true => rfl
  | false => rw [hh] at hg; cases hg
theorem cutC_fine {l : List Rw} (h : Fine l) {t : ByteArray} (hh : hasK key1 l t = true) : cutC l t = 0 ∧ cutR l t = cutK key1 l t := by
  have h1 : cutC l t = 0 := by
    unfold cutC
    rw [if_neg (by simpa using fine_check h), if_pos hh]
  exact ⟨h1, by unfold cutR; rw [if_pos h1]⟩

end Go.Proofs.YtjmdebeffpdpcaaGreatDoor
