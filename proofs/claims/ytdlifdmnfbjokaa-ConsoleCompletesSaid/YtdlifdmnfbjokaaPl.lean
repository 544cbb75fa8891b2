/- Package console: sorting and filtering words, plain law. -/
import Derived.Shelf.Sort.Plain
namespace Go.Proofs.Ytdlifdmnfbjokaa

def le (x y : List UInt8) : Bool := decide (x ≤ y)
theorem le_tr (a b c : List UInt8) (h1 : le a b = true) (h2 : le b c = true) : le a c = true := by
  simp only [le, decide_eq_true_eq] at *
  exact List.le_trans h1 h2
theorem le_tot (a b : List UInt8) : (le a b || le b a) = true := by
  simp only [le, Bool.or_eq_true, decide_eq_true_eq]
  exact List.le_total a b
theorem le_anti (a b : List UInt8) (h1 : le a b = true) (h2 : le b a = true) : a = b := by
  simp only [le, decide_eq_true_eq] at *
  exact List.le_antisymm h1 h2
theorem filter_sort (p : List UInt8 → Bool) (V : List (List UInt8)) : (V.mergeSort le).filter p = (V.filter p).mergeSort le := by
  refine List.Perm.eq_of_pairwise (le := fun a b : List UInt8 => le a b = true) (fun a b _ _ h1 h2 => le_anti a b h1 h2) ?_ ?_ ?_
  · exact (List.pairwise_mergeSort (le := le) le_tr le_tot V).filter p
  · exact List.pairwise_mergeSort (le := le) le_tr le_tot _
  · exact ((List.mergeSort_perm V le).filter p).trans (List.mergeSort_perm _ le).symm
end Go.Proofs.Ytdlifdmnfbjokaa
