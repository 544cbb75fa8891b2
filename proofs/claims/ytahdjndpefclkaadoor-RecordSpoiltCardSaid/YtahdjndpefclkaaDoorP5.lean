/- A spoilt log: the entries before the changed byte. -/
import Derived.Test.YtahdjndpefclkaaDoorP4
namespace Go.Proofs.YtahdjndpefclkaaDoor
open Go.RowKit
open Go.Lib hiding intOf

theorem spoilt_pre {L l : List Ent} {rest : L8} {q m : Nat} {v : UInt8} (hL : LogOk L) (hl : LogOk l) (hs : Stop l rest) (h : (encs L).set q v = encs l ++ rest) (h1 : (encs (L.take m)).length ≤ q) :
    ∀ i, i < m → i < L.length → l[i]? = L[i]? := by
  have e1 : (encs L).set q v = encs (L.take m) ++ (encs (L.drop m)).set (q - (encs (L.take m)).length) v := by
    rw [encs_split L m, List.set_append_right _ _ h1]
  obtain ⟨t, rfl, _⟩ := recov_pre hl (hL.take m) hs (h.symm.trans e1)
  intro i hi hiL
  rw [List.getElem?_append_left (by rw [List.length_take]; omega), List.getElem?_take, if_pos hi]

theorem spoilt_len {L l : List Ent} {m i : Nat} (h : ∀ i, i < m → i < L.length → l[i]? = L[i]?) (hi : i < m) (hiL : i < L.length) : i < l.length := by
  have h1 := h i hi hiL
  rw [List.getElem?_eq_getElem hiL] at h1
  exact (List.getElem?_eq_some_iff.1 h1).1
end Go.Proofs.YtahdjndpefclkaaDoor
