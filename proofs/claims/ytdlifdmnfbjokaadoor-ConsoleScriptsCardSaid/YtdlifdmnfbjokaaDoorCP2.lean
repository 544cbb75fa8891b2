/- Plain laws: the lines of a script. -/
import Derived.Test.YtdlifdmnfbjokaaDoorCP1
import Derived.Shelf.Strings.Prefix
namespace Go.Proofs.YtdlifdmnfbjokaaDoor
open Go.RowKit
open Go.Lib hiding intOf

theorem spl_snoc (c : UInt8) : ∀ (n : Nat) (u : L8), u.length ≤ n → spl c (u ++ [c]) = spl c u ++ [[]]
  | n, u, hn => by
    rcases first c u with h | ⟨a, r, rfl, h⟩
    · rw [spl_more [] h, spl_last h, spl_last (a := []) (fun b hb => by simp at hb)]
      rfl
    · cases n with
      | zero => simp at hn
      | succ n =>
        rw [List.append_assoc, List.cons_append, spl_more (r ++ [c]) h, spl_more r h, spl_snoc c n r (by simp at hn; omega)]
        rfl
theorem spl_end (c : UInt8) : ∀ (n : Nat) (s : L8), s.length ≤ n → s ≠ [] → (∀ u, s ≠ u ++ [c]) → (spl c s).getLast? ≠ some []
  | n, s, hn, h0, h1 => by
    rcases first c s with h | ⟨a, r, rfl, h⟩
    · rw [spl_last h]
      intro e
      simp at e
      exact h0 e
    · cases n with
      | zero => simp at hn
      | succ n =>
        have hr : r ≠ [] := fun e => h1 a (by rw [e])
        have ih := spl_end c n r (by simp at hn; omega) hr (fun u e => h1 (a ++ c :: u) (by rw [e]; simp))
        rw [spl_more r h]
        obtain ⟨x, xs, hx⟩ : ∃ x xs, spl c r = x :: xs := by
          cases hs : spl c r with
          | nil => exact absurd hs (spl_ne c r)
          | cons x xs => exact ⟨x, xs, rfl⟩
        rw [hx] at ih ⊢
        rwa [List.getLast?_cons_cons]

def nl : ByteArray := ⟨#[10]⟩
def linesB (t : ByteArray) : List ByteArray := splitB nl 0 (countB t nl) t
theorem lines_bl (t : ByteArray) : (linesB t).map bl = spl 10 (bl t) := splitB_data nl 0 _ t
theorem lines_len (t : ByteArray) : (linesB t).length = countB t nl + 1 := splitB_all nl (by decide) 0 _ t rfl
theorem lines_len_le (t : ByteArray) : (linesB t).length ≤ t.size + 1 := by
  rw [lines_len]
  have := countB_le nl (by decide) t.size t (Nat.le_refl _)
  omega
theorem lines_size {t x : ByteArray} (h : x ∈ linesB t) : x.size ≤ t.size := by
  have h1 : bl x ∈ splitK [10] 0 (count (bl t) [10]) (bl t) := by
    have := lines_bl t
    unfold spl at this
    rw [← this]; exact List.mem_map.2 ⟨x, h, rfl⟩
  have := splitK_le _ _ _ _ h1
  rw [size_bl, size_bl] at this
  exact this
/-- A last empty line is dropped. -/
def dropE (l : List ByteArray) : List ByteArray := if l.getLast? = some .empty then l.dropLast else l
def linesOf (t : ByteArray) : List ByteArray := dropE (linesB t)
def trimB (t : ByteArray) : ByteArray := mk (trimSuffix (bl t) [10])
theorem lines_eq {t : ByteArray} {l : List ByteArray} (h : spl 10 (bl t) = l.map bl) : linesB t = l := map_bl_inj (by rw [lines_bl, h])
theorem lines_trim {t : ByteArray} (ht : t ≠ .empty) : linesB (trimB t) = linesOf t := by
  have hb : bl t ≠ [] := fun e => ht (bl_inj (by rw [e]; rfl))
  unfold linesOf dropE trimB
  by_cases hu : ∃ u, bl t = u ++ [10]
  · obtain ⟨u, hu⟩ := hu
    have e1 : trimSuffix (bl t) [10] = u := by
      unfold trimSuffix
      rw [hu, if_pos (by unfold hasSuffix; simp)]
      simp
    have e2 := lines_bl t
    rw [hu, spl_snoc 10 _ u (Nat.le_refl _)] at e2
    obtain ⟨l, hl⟩ : ∃ l, linesB (mk u) = l := ⟨_, rfl⟩
    have e3 : linesB t = l ++ [.empty] := map_bl_inj (by rw [e2, List.map_append, ← hl, lines_bl, bl_mk]; rfl)
    rw [e1, hl, e3, if_pos (by simp), List.dropLast_concat]
  · have hu' : ∀ u, bl t ≠ u ++ [10] := fun u e => hu ⟨u, e⟩
    have e1 : trimSuffix (bl t) [10] = bl t := by
      unfold trimSuffix
      rw [if_neg]
      intro h
      unfold hasSuffix at h
      rw [List.isSuffixOf_iff_suffix] at h
      obtain ⟨u, hu2⟩ := h
      exact hu' u hu2.symm
    rw [e1, mk_bl, if_neg]
    intro e
    have := spl_end 10 _ (bl t) (Nat.le_refl _) hb hu'
    rw [← lines_bl, List.getLast?_map, e] at this
    exact this rfl
theorem lines_empty : linesOf .empty = [] := by
  have : linesB .empty = [.empty] := lines_eq (by rw [show bl ByteArray.empty = [] from rfl, spl_last (fun b hb => by simp at hb)]; rfl)
  unfold linesOf dropE
  rw [this]; rfl
theorem dropE_le (l : List ByteArray) : (dropE l).length ≤ l.length := by
  unfold dropE; split
  · rw [List.length_dropLast]; omega
  · exact Nat.le_refl _
theorem dropE_mem {l : List ByteArray} {x : ByteArray} (h : x ∈ dropE l) : x ∈ l := by
  unfold dropE at h
  split at h
  · exact List.dropLast_subset _ h
  · exact h
theorem lines_of_size {t x : ByteArray} (h : x ∈ linesOf t) : x.size ≤ t.size := lines_size (dropE_mem h)
/-- Where the first line that is no command stands. -/
theorem first_err (l : List ByteArray) : (∀ i, i < l.length → (parseC l[i]!).2 = 0) ∨ ∃ k, k < l.length ∧ (parseC l[k]!).2 ≠ 0 ∧ ∀ i, i < k → (parseC l[i]!).2 = 0 := by
  by_cases h : ∀ i, i < l.length → (parseC l[i]!).2 = 0
  · exact .inl h
  · right
    have hex : ∃ k, k < l.length ∧ (parseC l[k]!).2 ≠ 0 := by
      refine Classical.byContradiction fun hn => h fun i hi => ?_
      exact Classical.byContradiction fun he => hn ⟨i, hi, he⟩
    clear h
    suffices ∀ n, (∃ k, k < n ∧ k < l.length ∧ (parseC l[k]!).2 ≠ 0) → ∃ k, k < l.length ∧ (parseC l[k]!).2 ≠ 0 ∧ ∀ i, i < k → (parseC l[i]!).2 = 0 by
      obtain ⟨k, h1, h2⟩ := hex
      exact this (k + 1) ⟨k, by omega, h1, h2⟩
    intro n
    induction n with
    | zero => rintro ⟨k, h, _⟩; omega
    | succ n ih =>
      rintro ⟨k, h1, h2, h3⟩
      by_cases hs : ∃ k, k < n ∧ k < l.length ∧ (parseC l[k]!).2 ≠ 0
      · exact ih hs
      · refine ⟨k, h2, h3, fun i hi => ?_⟩
        exact Classical.byContradiction fun he => hs ⟨i, by omega, by omega, he⟩
end Go.Proofs.YtdlifdmnfbjokaaDoor
