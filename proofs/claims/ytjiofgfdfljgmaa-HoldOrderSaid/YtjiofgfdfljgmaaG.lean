/- Package hold: what holds of a stack's levels. -/
import Derived.Test.YtjiofgfdfljgmaaA7
namespace Go.Proofs.Ytjiofgfdfljgmaa
open Go.RowKit

def hOf (ls : List Lv) (i : Nat) : Int := (at_ ls i).2.1
def tOf (ls : List Lv) (i : Nat) : Int := (at_ ls i).2.2
structure Good (ls : List Lv) (now : Int) : Prop where
  lo : ∀ i, i < ls.length → 3000 ≤ hOf ls i ∧ hOf ls i ≤ 7000 ∧ hOf ls i % 1000 = 0
  tm : ∀ i, i < ls.length → 0 ≤ tOf ls i ∧ tOf ls i ≤ now
  up : ∀ i, i + 1 < ls.length → hOf ls i + 1000 ≤ hOf ls (i + 1)

theorem at_snoc_old (ls : List Lv) (x : Lv) {i : Nat} (hi : i < ls.length) : at_ (ls ++ [x]) i = at_ ls i := by
  unfold at_
  rw [getElem!_pos _ i (by simp; omega), getElem!_pos ls i hi, List.getElem_append_left hi]
theorem at_snoc_new (ls : List Lv) (x : Lv) : at_ (ls ++ [x]) ls.length = x := by
  unfold at_
  rw [getElem!_pos _ ls.length (by simp), List.getElem_append_right (Nat.le_refl _)]
  simp
theorem at_cons (x : Lv) (ls : List Lv) {i : Nat} : at_ (x :: ls) (i + 1) = at_ ls i := by
  unfold at_
  simp
theorem topH_eq (ls : List Lv) (h : 0 < ls.length) : topH 3000 1000 ls = hOf ls (ls.length - 1) + 1000 := by
  rcases List.eq_nil_or_concat ls with hl | ⟨l', x, hl⟩
  · subst hl; simp at h
  · rw [List.concat_eq_append] at hl
    subst hl
    rw [topH_snoc]
    unfold hOf
    have : (l' ++ [x]).length - 1 = l'.length := by simp
    rw [this, at_snoc_new]

theorem Good.nil (now : Int) : Good [] now := ⟨fun i hi => absurd hi (by simp), fun i hi => absurd hi (by simp), fun i hi => absurd hi (by simp)⟩
theorem Good.later {ls : List Lv} {now t : Int} (h : Good ls now) (ht : now ≤ t) : Good ls t := ⟨h.lo, fun i hi => ⟨(h.tm i hi).1, Int.le_trans (h.tm i hi).2 ht⟩, h.up⟩
theorem Good.top {ls : List Lv} {now : Int} (h : Good ls now) : 3000 ≤ topH 3000 1000 ls ∧ topH 3000 1000 ls ≤ 8000 ∧ topH 3000 1000 ls % 1000 = 0 := by
  by_cases h0 : ls.length = 0
  · rw [List.eq_nil_of_length_eq_zero h0]; decide
  · have := h.lo (ls.length - 1) (by omega)
    rw [topH_eq ls (by omega)]; omega
theorem Good.push {ls : List Lv} {now t : Int} (h : Good ls now) (ht0 : 0 ≤ t) (ht : now ≤ t) (call : ByteArray) (h7 : topH 3000 1000 ls ≤ 7000) : Good (ls ++ [(call, topH 3000 1000 ls, t)]) t := by
  have htop := h.top
  refine ⟨fun i hi => ?_, fun i hi => ?_, fun i hi => ?_⟩
  · by_cases e : i < ls.length
    · unfold hOf; rw [at_snoc_old _ _ e]; exact h.lo i e
    · have : i = ls.length := by simp at hi; omega
      subst this
      unfold hOf; rw [at_snoc_new]; exact ⟨htop.1, h7, htop.2.2⟩
  · by_cases e : i < ls.length
    · unfold tOf; rw [at_snoc_old _ _ e]; exact ⟨(h.tm i e).1, Int.le_trans (h.tm i e).2 ht⟩
    · have : i = ls.length := by simp at hi; omega
      subst this
      unfold tOf; rw [at_snoc_new]; exact ⟨ht0, Int.le_refl _⟩
  · simp at hi
    unfold hOf
    rw [at_snoc_old _ _ (by omega)]
    by_cases e : i + 1 < ls.length
    · rw [at_snoc_old _ _ e]; exact h.up i e
    · have e2 : i + 1 = ls.length := by omega
      rw [e2, at_snoc_new]
      have := topH_eq ls (by omega)
      show (at_ ls i).2.1 + 1000 ≤ topH 3000 1000 ls
      rw [this]
      unfold hOf
      rw [show ls.length - 1 = i by omega]
      exact Int.le_refl _
theorem Good.pop {x : Lv} {ls : List Lv} {now : Int} (h : Good (x :: ls) now) : Good ls now :=
  ⟨fun i hi => by have := h.lo (i + 1) (by simp; omega); unfold hOf at *; rw [at_cons] at this; exact this,
   fun i hi => by have := h.tm (i + 1) (by simp; omega); unfold tOf at *; rw [at_cons] at this; exact this,
   fun i hi => by have := h.up (i + 1) (by simp; omega); unfold hOf at *; rw [at_cons, at_cons] at this; exact this⟩

/-- What a descent does to level i: nothing, or 1000 down. -/
theorem dnA_cases (f : Nat → Lv) (i : Nat) : dnA 3000 1000 f i = f i ∨ (dnA 3000 1000 f i = ((f i).1, (f i).2.1 - 1000, (f i).2.2) ∧ 3000 ≤ (f i).2.1 - 1000 ∧ ∀ p, i = p + 1 → (dnA 3000 1000 f p).2.1 < (f i).2.1 - 1000) := by
  rw [dnA_eq]
  unfold dn1
  by_cases h : dnh 3000 1000 (prevH 3000 1000 f i) (f i) = true
  · right
    rw [if_pos h]
    unfold dnh at h
    simp only [Bool.and_eq_true, decide_eq_true_eq] at h
    refine ⟨rfl, h.1, fun p hp => ?_⟩
    subst hp
    have := h.2
    unfold prevH at this
    simpa using this
  · left; rw [if_neg h]
theorem at_dnL (ls : List Lv) {i : Nat} (hi : i < ls.length) : at_ (dnL 3000 1000 ls) i = dnA 3000 1000 (at_ ls) i := dnL_at 3000 1000 ls hi
theorem dnA_le (f : Nat → Lv) (i : Nat) : (dnA 3000 1000 f i).2.1 ≤ (f i).2.1 ∧ (dnA 3000 1000 f i).2.2 = (f i).2.2 ∧ (dnA 3000 1000 f i).1 = (f i).1 := by
  rcases dnA_cases f i with h | ⟨h, _⟩
  · rw [h]; exact ⟨Int.le_refl _, rfl, rfl⟩
  · rw [h]; exact ⟨by show (f i).2.1 - 1000 ≤ _; omega, rfl, rfl⟩
theorem Good.down {ls : List Lv} {now t : Int} (h : Good ls now) (ht : now ≤ t) : Good (dnL 3000 1000 ls) t := by
  have hd : ∀ i, i < ls.length → 3000 ≤ (dnA 3000 1000 (at_ ls) i).2.1 ∧ (dnA 3000 1000 (at_ ls) i).2.1 ≤ 7000 ∧ (dnA 3000 1000 (at_ ls) i).2.1 % 1000 = 0 := fun i hi => by
    have h1 := h.lo i hi
    unfold hOf at h1
    rcases dnA_cases (at_ ls) i with e | ⟨e, e2, _⟩
    · rw [e]; exact h1
    · rw [e]; show 3000 ≤ (at_ ls i).2.1 - 1000 ∧ (at_ ls i).2.1 - 1000 ≤ 7000 ∧ ((at_ ls i).2.1 - 1000) % 1000 = 0; omega
  refine ⟨fun i hi => ?_, fun i hi => ?_, fun i hi => ?_⟩
  · rw [dnL_len] at hi
    unfold hOf; rw [at_dnL ls hi]; exact hd i hi
  · rw [dnL_len] at hi
    unfold tOf; rw [at_dnL ls hi, (dnA_le _ i).2.1]
    have := h.tm i hi
    unfold tOf at this; omega
  · rw [dnL_len] at hi
    unfold hOf
    rw [at_dnL ls hi, at_dnL ls (by omega)]
    have h1 := h.up i hi
    unfold hOf at h1
    have h2 := dnA_le (at_ ls) i
    have h3 := hd i (by omega)
    have h4 := hd (i + 1) hi
    rcases dnA_cases (at_ ls) (i + 1) with e | ⟨e, _, e3⟩
    · rw [e]; omega
    · have h5 := e3 i rfl
      rw [e] at h4 ⊢
      have h4 : 3000 ≤ (at_ ls (i + 1)).2.1 - 1000 ∧ (at_ ls (i + 1)).2.1 - 1000 ≤ 7000 ∧ ((at_ ls (i + 1)).2.1 - 1000) % 1000 = 0 := h4
      show (dnA 3000 1000 (at_ ls) i).2.1 + 1000 ≤ (at_ ls (i + 1)).2.1 - 1000
      omega
theorem Good.len {ls : List Lv} {now : Int} (h : Good ls now) : ls.length ≤ 5 := by
  have key : ∀ i, i < ls.length → 3000 + 1000 * (i : Int) ≤ hOf ls i := by
    intro i
    induction i with
    | zero => intro hi; have := (h.lo 0 hi).1; omega
    | succ i ih =>
      intro hi
      have := ih (by omega)
      have := h.up i hi
      omega
  by_cases h0 : ls.length = 0
  · omega
  · have := key (ls.length - 1) (by omega)
    have := (h.lo (ls.length - 1) (by omega)).2.1
    omega
theorem dnL_calls (ls : List Lv) : (dnL 3000 1000 ls).map (·.1) = ls.map (·.1) := by
  apply List.ext_getElem
  · simp [dnL_len]
  · intro i h1 h2
    have hi : i < ls.length := by simpa using h2
    have e := at_dnL ls hi
    unfold at_ at e
    rw [getElem!_pos _ i (by rw [dnL_len]; exact hi)] at e
    simp only [List.getElem_map]
    rw [e, (dnA_le _ i).2.2, getElem!_pos ls i hi]
end Go.Proofs.Ytjiofgfdfljgmaa
