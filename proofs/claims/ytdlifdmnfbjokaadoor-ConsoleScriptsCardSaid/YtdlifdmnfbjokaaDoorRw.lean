/- Lists of structs as rows of cells. -/
import Derived.Test.YtdlifdmnfbjokaaDoorDel
import Derived.Test.YtdlifdmnfbjokaaDoorMore
import Derived.Test.YtdlifdmnfbjokaaDoorFlat
namespace Go.Proofs.YtdlifdmnfbjokaaDoor
open Go.RowKit

section
variable {α : Type} (enc : α → List Value)

def rowsV (l : List α) : List Value := l.flatMap enc
theorem rowsV_nil : rowsV enc ([] : List α) = [] := rfl
theorem rowsV_cons (x : α) (l : List α) : rowsV enc (x :: l) = enc x ++ rowsV enc l := by simp [rowsV]
theorem rowsV_append (l m : List α) : rowsV enc (l ++ m) = rowsV enc l ++ rowsV enc m := by simp [rowsV]
theorem rowsV_snoc (l : List α) (x : α) : rowsV enc (l ++ [x]) = rowsV enc l ++ enc x := by simp [rowsV]
variable {enc} {k : Nat} (hk : ∀ x, (enc x).length = k)
include hk
theorem rowsV_len : ∀ l : List α, (rowsV enc l).length = l.length * k
  | [] => by simp [rowsV]
  | x :: l => by rw [rowsV_cons, List.length_append, hk, rowsV_len l, List.length_cons, Nat.add_mul]; omega
theorem rowsV_take (i : Nat) (l : List α) (hi : i ≤ l.length) : (rowsV enc l).take (i * k) = rowsV enc (l.take i) := by
  have h1 := rowsV_len hk (l.take i)
  rw [List.length_take, Nat.min_eq_left hi] at h1
  conv => lhs; rw [← List.take_append_drop i l, rowsV_append]
  rw [List.take_append_of_le_length (by omega), List.take_of_length_le (by omega)]
theorem rowsV_drop (i : Nat) (l : List α) (hi : i ≤ l.length) : (rowsV enc l).drop (i * k) = rowsV enc (l.drop i) := by
  have h1 := rowsV_len hk (l.take i)
  rw [List.length_take, Nat.min_eq_left hi] at h1
  conv => lhs; rw [← List.take_append_drop i l, rowsV_append]
  rw [List.drop_append_of_le_length (by omega), List.drop_of_length_le (by omega), List.nil_append]
theorem rowsV_at (l : List α) (i : Nat) (hi : i < l.length) (j : Nat) (hj : j < k) : (rowsV enc l)[i * k + j]? = (enc l[i])[j]? := by
  rw [← List.getElem?_drop, rowsV_drop hk i l (by omega), List.drop_eq_getElem_cons hi, rowsV_cons, List.getElem?_append_left (by rw [hk]; exact hj)]
theorem rowsV_put (l : List α) (i : Nat) (hi : i < l.length) (x : α) : (rowsV enc l).take (i * k) ++ enc x ++ (rowsV enc l).drop ((i + 1) * k) = rowsV enc (l.set i x) := by
  rw [rowsV_take hk i l (by omega), rowsV_drop hk (i + 1) l (by omega), List.set_eq_take_append_cons_drop, if_pos hi, rowsV_append, rowsV_cons, List.append_assoc]
theorem rowsV_ins (l : List α) (i : Nat) (hi : i ≤ l.length) (x : α) : (rowsV enc l).take (i * k) ++ enc x ++ (rowsV enc l).drop (i * k) = rowsV enc (l.take i ++ x :: l.drop i) := by
  rw [rowsV_take hk i l hi, rowsV_drop hk i l hi, rowsV_append, rowsV_cons, List.append_assoc]
theorem rowsV_cut (l : List α) (i : Nat) (hi : i < l.length) : (rowsV enc l).take (i * k) ++ (rowsV enc l).drop ((i + 1) * k) = rowsV enc (l.take i ++ l.drop (i + 1)) := by
  rw [rowsV_take hk i l (by omega), rowsV_drop hk (i + 1) l (by omega), rowsV_append]
omit hk in
theorem rowsV_one (h : ∀ x, ∀ u ∈ enc x, u.oneCell' = true) (l : List α) : ∀ u ∈ rowsV enc l, u.oneCell' = true := fun u hu => by
  simp only [rowsV, List.mem_flatMap] at hu
  obtain ⟨x, _, hu⟩ := hu
  exact h x u hu

variable [Inhabited α]
theorem rowsV_flat (l : List α) : rowsV enc l = flatR (fun i => enc l[i]!) l.length := by
  apply List.ext_getElem?
  intro p
  have h1 := rowsV_len hk l
  have h2 := flatR_len (row := fun i => enc l[i]!) (k := k) l.length (fun i _ => hk _)
  rcases Nat.eq_zero_or_pos k with h0 | h0
  · subst h0
    rw [List.getElem?_eq_none (by omega), List.getElem?_eq_none (by omega)]
  rcases Nat.lt_or_ge p (l.length * k) with hp | hp
  · have e : p / k * k + p % k = p := Nat.div_add_mod' p k
    have h3 : p / k < l.length := (Nat.div_lt_iff_lt_mul h0).2 hp
    have h4 := Nat.mod_lt p h0
    have g1 := rowsV_at hk l (p / k) h3 (p % k) h4
    have g2 := flatR_get (row := fun i => enc l[i]!) (k := k) l.length (fun i _ => hk _) (p / k) (p % k) h3 h4
    rw [e] at g1 g2
    rw [g1, g2, getElem!_pos l _ h3]
  · rw [List.getElem?_eq_none (by omega), List.getElem?_eq_none (by omega)]
/-- One cell of one element is written. -/
theorem rowsV_cell (l : List α) (i : Nat) (hi : i < l.length) (j : Nat) (hj : j < k) (u : Value) (x : α) (h : (enc l[i]!).set j u = enc x) : (rowsV enc l).set (i * k + j) u = rowsV enc (l.set i x) := by
  rw [rowsV_flat hk l, flatR_set (k := k) (by omega) (fun _ _ => hk _) i j hi hj, rowsV_flat hk (l.set i x), List.length_set]
  unfold flatR
  rw [List.flatMap_def, List.flatMap_def]
  congr 1
  refine List.map_congr_left fun y hy => ?_
  have hy : y < l.length := List.mem_range.1 hy
  by_cases e : y = i
  · subst e
    rw [if_pos rfl, h, getElem!_pos _ y (by simpa using hy)]
    simp
  · rw [if_neg e, getElem!_pos l y hy, getElem!_pos _ y (by simpa using hy), List.getElem_set, if_neg (fun h => e h.symm)]
/-- A row of the call's own, as a slice that reads. -/
theorem Sl_rows {w : World} {base n c : Nat} {e : TypeId} {A : Option Addr} {l : List α} (h : w.ownsRow base e k (.slice A n c) n (rowsV enc l)) (hn : l.length = n) (_ : 0 < k) : Sl w w.heap.size k A n (fun i => enc l[i]!) := by
  refine Sl.of_own h (Nat.le_refl _) fun i hi j v hj => ?_
  have hjk : j < k := by rw [← hk l[i]!]; exact (List.getElem?_eq_some_iff.1 hj).1
  rw [rowsV_at hk l i (by omega) j hjk]
  rw [getElem!_pos l i (by omega)] at hj
  exact hj
end

end Go.Proofs.YtdlifdmnfbjokaaDoor
