/- Rows in one list. -/
import Derived.Test.YtdlifdmnfbjokaaDoorMem
namespace Go.Proofs.YtdlifdmnfbjokaaDoor
open Go.RowKit

def flatR (row : Nat → List Value) (n : Nat) : List Value := (List.range n).flatMap row

theorem flatR_succ (row : Nat → List Value) (n : Nat) : flatR row (n + 1) = flatR row n ++ row n := by simp [flatR, List.range_succ]
theorem flatR_len {row : Nat → List Value} {k : Nat} : ∀ n, (∀ i, i < n → (row i).length = k) → (flatR row n).length = n * k
  | 0, _ => by simp [flatR]
  | n + 1, h => by rw [flatR_succ, List.length_append, flatR_len n (fun i hi => h i (by omega)), h n (by omega), Nat.add_mul, Nat.one_mul]
theorem flatR_get {row : Nat → List Value} {k : Nat} : ∀ n, (∀ i, i < n → (row i).length = k) → ∀ i j, i < n → j < k → (flatR row n)[i * k + j]? = (row i)[j]?
  | 0, _, i, _, hi, _ => by omega
  | n + 1, h, i, j, hi, hj => by
    have hl := flatR_len (k := k) n (fun i hi => h i (by omega))
    rw [flatR_succ]
    by_cases e : i = n
    · subst e
      rw [List.getElem?_append_right (by omega), hl, Nat.add_sub_cancel_left]
    · have : i * k + j < n * k := by
        have h2 : (i + 1) * k ≤ n * k := Nat.mul_le_mul_right k (by omega)
        rw [Nat.add_mul, Nat.one_mul] at h2
        omega
      rw [List.getElem?_append_left (by omega)]
      exact flatR_get n (fun i hi => h i (by omega)) i j (by omega) hj
theorem flatR_mem {row : Nat → List Value} {n : Nat} {u : Value} (h : u ∈ flatR row n) : ∃ i, i < n ∧ u ∈ row i := by
  simp only [flatR, List.mem_flatMap, List.mem_range] at h
  exact h
/-- Every place of the flat list is a place of a row. -/
theorem flatR_at {row : Nat → List Value} {n k : Nat} (hk : 0 < k) (h : ∀ i, i < n → (row i).length = k) {p : Nat} {u : Value} (hp : (flatR row n)[p]? = some u) : p / k < n ∧ (row (p / k))[p % k]? = some u := by
  have hl := flatR_len (k := k) n h
  have hlt : p < n * k := by
    rcases Nat.lt_or_ge p (n * k) with h' | h'
    · exact h'
    · rw [List.getElem?_eq_none (by omega)] at hp; cases hp
  have h1 : p / k < n := (Nat.div_lt_iff_lt_mul hk).2 hlt
  refine ⟨h1, ?_⟩
  rw [← flatR_get n h (p / k) (p % k) h1 (Nat.mod_lt _ hk), Nat.div_add_mod']
  exact hp

/-- One cell of one row is written. -/
theorem flatR_set {row : Nat → List Value} {n k : Nat} (hk : 0 < k) (h : ∀ i, i < n → (row i).length = k) (i j : Nat) (hi : i < n) (hj : j < k) (u : Value) :
    (flatR row n).set (i * k + j) u = flatR (fun x => if x = i then (row i).set j u else row x) n := by
  have h' : ∀ x, x < n → (if x = i then (row i).set j u else row x).length = k := fun x hx => by
    split
    · rw [List.length_set]; exact h i hi
    · exact h x hx
  have hlt : i * k + j < n * k := by
    have h2 : (i + 1) * k ≤ n * k := Nat.mul_le_mul_right k (by omega)
    rw [Nat.add_mul, Nat.one_mul] at h2
    omega
  apply List.ext_getElem?
  intro p
  rcases Nat.lt_or_ge p (n * k) with hp | hp
  · have e : p / k * k + p % k = p := Nat.div_add_mod' p k
    have h1 : p / k < n := (Nat.div_lt_iff_lt_mul hk).2 hp
    have h2 := Nat.mod_lt p hk
    have g1 := flatR_get n h (p / k) (p % k) h1 h2
    have g2 := flatR_get n h' (p / k) (p % k) h1 h2
    rw [e] at g1 g2
    rw [g2]
    by_cases hpe : i * k + j = p
    · subst hpe
      have d1 : (i * k + j) / k = i := by rw [Nat.mul_comm, Nat.mul_add_div hk, Nat.div_eq_of_lt hj, Nat.add_zero]
      have d2 : (i * k + j) % k = j := by rw [Nat.mul_comm, Nat.mul_add_mod, Nat.mod_eq_of_lt hj]
      rw [d1, d2, if_pos rfl, List.getElem?_set_self (by rw [flatR_len n h]; exact hlt), List.getElem?_set_self (by rw [h i hi]; exact hj)]
    · rw [List.getElem?_set_ne hpe, g1]
      by_cases hpi : p / k = i
      · rw [if_pos hpi, List.getElem?_set_ne (fun e' => hpe (by rw [← e, hpi, e'])), hpi]
      · rw [if_neg hpi]
  · rw [List.getElem?_eq_none (by rw [List.length_set, flatR_len n h]; exact hp), List.getElem?_eq_none (by rw [flatR_len n h']; exact hp)]

/-- One row is taken out. -/
theorem flatR_del {row : Nat → List Value} {n k : Nat} (hk : 0 < k) (h : ∀ i, i < n → (row i).length = k) (i : Nat) (hi : i < n) :
    (flatR row n).take (i * k) ++ (flatR row n).drop ((i + 1) * k) = flatR (fun x => if x < i then row x else row (x + 1)) (n - 1) := by
  have h' : ∀ x, x < n - 1 → (if x < i then row x else row (x + 1)).length = k := fun x hx => by
    split
    · exact h x (by omega)
    · exact h (x + 1) (by omega)
  have hl := flatR_len n h
  have hl' := flatR_len (n - 1) h'
  have e1 : (i + 1) * k ≤ n * k := Nat.mul_le_mul_right k (by omega)
  have e2 : (i + 1) * k = i * k + k := by rw [Nat.add_mul, Nat.one_mul]
  have e3 : n * k = (n - 1) * k + k := by
    have : n = (n - 1) + 1 := by omega
    rw [this, Nat.add_mul, Nat.one_mul, Nat.add_sub_cancel]
  apply List.ext_getElem?
  intro p
  rcases Nat.lt_or_ge p ((n - 1) * k) with hp | hp
  · have e : p / k * k + p % k = p := Nat.div_add_mod' p k
    have h1 : p / k < n - 1 := (Nat.div_lt_iff_lt_mul hk).2 hp
    have h2 := Nat.mod_lt p hk
    have g2 := flatR_get (n - 1) h' (p / k) (p % k) h1 h2
    rw [e] at g2
    rw [g2]
    by_cases hpi : p / k < i
    · have hlt : p < i * k := by
        have : (p / k + 1) * k ≤ i * k := Nat.mul_le_mul_right k hpi
        rw [Nat.add_mul, Nat.one_mul] at this
        omega
      rw [if_pos hpi, List.getElem?_append_left (by rw [List.length_take]; omega), List.getElem?_take, if_pos hlt]
      have g1 := flatR_get n h (p / k) (p % k) (by omega) h2
      rw [e] at g1; exact g1
    · have hge : i * k ≤ p := by
        have : i * k ≤ p / k * k := Nat.mul_le_mul_right k (by omega)
        omega
      rw [if_neg hpi, List.getElem?_append_right (by rw [List.length_take]; omega), List.length_take, Nat.min_eq_left (by omega), List.getElem?_drop]
      have g1 := flatR_get n h (p / k + 1) (p % k) (by omega) h2
      rw [Nat.add_mul, Nat.one_mul] at g1
      rw [← g1]
      congr 1
      omega
  · rw [List.getElem?_eq_none (by rw [List.length_append, List.length_take, List.length_drop, hl]; omega), List.getElem?_eq_none (by omega)]

theorem intsV_flat (f : Nat → Int) (n : Nat) : intsV ((List.range n).map f) = flatR (fun x => [.int .i64 (f x)]) n := by
  induction n with
  | zero => rfl
  | succ n ih => rw [flatR_succ, ← ih, List.range_succ]; simp [intsV]

theorem intsV_del (f : Nat → Int) (n i : Nat) (hi : i < n) :
    (intsV ((List.range n).map f)).take (i * 1) ++ (intsV ((List.range n).map f)).drop ((i + 1) * 1) = intsV ((List.range (n - 1)).map fun x => if x < i then f x else f (x + 1)) := by
  rw [intsV_flat, flatR_del (row := fun x => [Value.int .i64 (f x)]) (k := 1) (by decide) (fun _ _ => rfl) i hi, intsV_flat]
  congr 1
  funext x
  split <;> rfl

/-- The cells of a slice that reads, as the source of an append. -/
theorem Sl_news {w : World} {B k n : Nat} {A : Option Addr} {row : Nat → List Value} {ad : Addr} (hk : 0 < k) (h : Sl w B k A n row) (hA : A = some ad) (hl : ∀ i, i < n → (row i).length = k) :
    ∀ j u, (flatR row n)[j]? = some u → w.cell? (ad.add j) = some u := by
  intro j u hu
  obtain ⟨h1, h2⟩ := flatR_at hk hl hu
  obtain ⟨b, off, e, _, hr⟩ := h (Nat.lt_of_le_of_lt (Nat.zero_le _) h1)
  rw [hA] at e
  injection e with e
  subst e
  have := hr (j / k) h1 (j % k) u h2
  rw [Addr.add_mid]
  rw [Nat.add_assoc, Nat.div_add_mod'] at this
  exact this

/-- A row of the call's own, read row by row. -/
theorem Sl_flat {w : World} {base k n c : Nat} {e : TypeId} {A : Option Addr} {row : Nat → List Value} (hl : ∀ i, i < n → (row i).length = k) (h : w.ownsRow base e k (.slice A n c) n (flatR row n)) : Sl w w.heap.size k A n row :=
  Sl.of_own h (Nat.le_refl _) fun i hi j v hj => by
    have hjk : j < k := by
      rw [← hl i hi]
      exact (List.getElem?_eq_some_iff.1 hj).1
    rw [flatR_get n hl i j hi hjk]; exact hj

end Go.Proofs.YtdlifdmnfbjokaaDoor
