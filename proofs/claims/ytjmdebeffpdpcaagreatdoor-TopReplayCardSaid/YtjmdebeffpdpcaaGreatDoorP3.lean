/- Logs and their bytes: what is recovered. -/
import Derived.Test.YtjmdebeffpdpcaaGreatDoorM2
namespace Go.Proofs.YtjmdebeffpdpcaaGreatDoor
open Go.RowKit
open Go.Lib hiding intOf

theorem encs_append (a b : List Ent) : encs (a ++ b) = encs a ++ encs b := by simp [encs]

theorem recov_step {l L : List Ent} {r R : L8} (hl : LogOk l) (hL : LogOk L) (hs : Stop l r) (h : encs l ++ r = encs L ++ R) :
    ∀ k, k ≤ L.length → k ≤ l.length ∧ l.take k = L.take k := by
  intro k
  induction k with
  | zero => exact fun _ => ⟨by omega, rfl⟩
  | succ k ih =>
    intro hk
    obtain ⟨h1, h2⟩ := ih (by omega)
    have e1 : encs l = encs (l.take k) ++ encs (l.drop k) := by rw [← encs_append, List.take_append_drop]
    have e2 : encs L = encs (L.take k) ++ encs (L.drop k) := by rw [← encs_append, List.take_append_drop]
    rw [e1, e2, h2, List.append_assoc, List.append_assoc] at h
    have h := List.append_cancel_left h
    have hx : L[k]? = some L[k] := List.getElem?_eq_getElem (by omega)
    obtain ⟨xn, xo⟩ := hL.1 k _ hx
    have d2 : L.drop k = L[k] :: L.drop (k + 1) := List.drop_eq_getElem_cons (by omega)
    rw [d2] at h
    by_cases hlt : k < l.length
    · have hy : l[k]? = some l[k] := List.getElem?_eq_getElem hlt
      obtain ⟨_, yo⟩ := hl.1 k _ hy
      have d1 : l.drop k = l[k] :: l.drop (k + 1) := List.drop_eq_getElem_cons hlt
      rw [d1] at h
      unfold encs at h
      rw [List.flatMap_cons, List.flatMap_cons, List.append_assoc, List.append_assoc] at h
      obtain ⟨e, _⟩ := enc_inj yo xo h
      refine ⟨hlt, ?_⟩
      rw [List.take_add_one, List.take_add_one, h2, hx, hy, e]
    · have hkl : l.length = k := by omega
      have hlL : l = L.take k := by rw [← h2, List.take_of_length_le (by omega)]
      rw [List.drop_eq_nil_of_le (by omega)] at h
      unfold encs at h
      rw [List.flatMap_nil, List.nil_append, List.flatMap_cons, List.append_assoc] at h
      refine absurd ⟨by rw [hkl]; exact xn, fun h0 => ?_⟩ (hs _ _ xo h)
      obtain ⟨e, he, hlt'⟩ := last_some h0
      rw [hlt']
      refine hL.2 (k - 1) e _ ?_ (by rw [show k - 1 + 1 = k by omega]; exact hx)
      rw [hkl, hlL, List.getElem?_take] at he
      rw [if_pos (by omega)] at he
      exact he

/-- What is recovered begins with the log whose bytes stand at the head. -/
theorem recov_pre {l L : List Ent} {r R : L8} (hl : LogOk l) (hL : LogOk L) (hs : Stop l r) (h : encs l ++ r = encs L ++ R) : ∃ t, l = L ++ t ∧ encs t ++ r = R := by
  obtain ⟨h1, h2⟩ := recov_step hl hL hs h L.length (Nat.le_refl _)
  rw [List.take_length] at h2
  have e0 : l = L ++ l.drop L.length := by
    have := List.take_append_drop L.length l
    rw [h2] at this
    exact this.symm
  refine ⟨_, e0, ?_⟩
  rw [(congrArg encs e0).trans (encs_append _ _), List.append_assoc] at h
  exact List.append_cancel_left h

theorem encs_nil {t : List Ent} (h : ∀ (i : Nat) (e : Ent), t[i]? = some e → Ok e) (h0 : encs t = []) : t = [] := by
  cases t with
  | nil => rfl
  | cons a t =>
    have ha := encL_len (h 0 a rfl)
    unfold encs at h0
    rw [List.flatMap_cons] at h0
    have := congrArg List.length h0
    simp at this
    rw [this.1] at ha
    simp at ha

/-- The bytes of a log give the log back. -/
theorem recov_eq {l L : List Ent} {r : L8} (hl : LogOk l) (hL : LogOk L) (hs : Stop l r) (h : encs L = encs l ++ r) : l = L := by
  obtain ⟨t, rfl, ht⟩ := recov_pre (R := []) hl hL hs (by rw [List.append_nil]; exact h.symm)
  have h0 := (List.append_eq_nil_iff.1 ht).1
  have := encs_nil (fun i e hi => (hl.1 (L.length + i) e (by rw [List.getElem?_append_right (by omega)]; simpa using hi)).2) h0
  rw [this, List.append_nil]
end Go.Proofs.YtjmdebeffpdpcaaGreatDoor
