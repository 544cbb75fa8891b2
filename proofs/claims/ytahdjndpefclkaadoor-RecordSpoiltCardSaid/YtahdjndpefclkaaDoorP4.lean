/- Torn logs: exactly the entries whose bytes are complete. -/
import Derived.Test.YtahdjndpefclkaaDoorP3
namespace Go.Proofs.YtahdjndpefclkaaDoor
open Go.RowKit
open Go.Lib hiding intOf

theorem LogOk.take {l : List Ent} (h : LogOk l) (m : Nat) : LogOk (l.take m) := by
  refine ⟨fun i e hi => ?_, fun i e e' hi hi' => ?_⟩
  · rw [List.getElem?_take] at hi
    split at hi
    · exact h.1 i e hi
    · cases hi
  · rw [List.getElem?_take] at hi hi'
    split at hi <;> split at hi'
    · exact h.2 i e e' hi hi'
    · cases hi'
    · cases hi
    · cases hi

theorem encs_split (L : List Ent) (m : Nat) : encs L = encs (L.take m) ++ encs (L.drop m) := by rw [← encs_append, List.take_append_drop]

theorem encs_cons (a : Ent) (t : List Ent) : encs (a :: t) = encL a ++ encs t := by simp [encs]

theorem torn_eq {L l : List Ent} {rest : L8} {p m : Nat} (hL : LogOk L) (hl : LogOk l) (hs : Stop l rest) (h : (encs L).take p = encs l ++ rest) (hm : m ≤ L.length) (h1 : (encs (L.take m)).length ≤ p)
    (h2 : m < L.length → p < (encs (L.take (m + 1))).length) : l = L.take m := by
  have e1 := encs_split L m
  have e2 : (encs L).take p = encs (L.take m) ++ (encs (L.drop m)).take (p - (encs (L.take m)).length) := by
    rw [e1, List.take_append, List.take_of_length_le h1]
  obtain ⟨t, rfl, ht⟩ := recov_pre hl (hL.take m) hs (h.symm.trans e2)
  suffices t = [] by rw [this, List.append_nil]
  cases t with
  | nil => rfl
  | cons y t =>
    exfalso
    have hy : Ok y := (hl.1 (L.take m).length y (by rw [List.getElem?_append_right (Nat.le_refl _)]; simp)).2
    have hyl := encL_len hy
    rw [encs_cons, List.append_assoc] at ht
    by_cases hlt : m < L.length
    · have hx := hL.1 m _ (List.getElem?_eq_getElem hlt)
      have d2 : L.drop m = L[m] :: L.drop (m + 1) := List.drop_eq_getElem_cons hlt
      have hsn := encs_snoc (List.getElem?_eq_getElem hlt)
      have hq := h2 hlt
      rw [hsn, List.length_append] at hq
      rw [d2, encs_cons, List.take_append_of_le_length (by omega)] at ht
      have h3 : encL y ++ ((encs t ++ rest) ++ (encL L[m]).drop (p - (encs (L.take m)).length)) = encL L[m] ++ [] := by
        rw [← List.append_assoc, ht, List.append_nil, List.take_append_drop]
      have h4 := (enc_inj hy hx.2 h3).2
      have h5 := congrArg List.length (List.append_eq_nil_iff.1 h4).2
      simp at h5
      omega
    · rw [List.drop_eq_nil_of_le (by omega)] at ht
      have h5 := congrArg List.length ht
      simp [encs] at h5
      rw [h5.1] at hyl
      simp at hyl
end Go.Proofs.YtahdjndpefclkaaDoor
