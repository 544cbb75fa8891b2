/- Plain law: the keys of two states, in order, each once. -/
import Derived.Test.YtojnojjiblcmcaaDoorSoS
namespace Go.Proofs.YtojnojjiblcmcaaDoor
open Go.RowKit

theorem ls_of {x y : ByteArray} (h : by_ x ≤ by_ y) (hne : x ≠ y) : lsS x y = true := by
  rw [lsS_iff, ByteArray.toList_eq, ByteArray.toList_eq]
  have h' : ¬ by_ y < by_ x := List.not_lt.2 h
  rcases Decidable.em (by_ x < by_ y) with h1 | h1
  · exact h1
  · exact absurd (by_inj (List.le_antisymm h (List.not_lt.1 h1))) hne

theorem ddN_law {L : List ByteArray} (hs : L.Pairwise (fun x y => by_ x ≤ by_ y)) : ∀ k, k ≤ L.length →
    (∀ t, t ∈ ddN (fun i => L[i]!) k ↔ ∃ i, i < k ∧ L[i]! = t) ∧ (ddN (fun i => L[i]!) k).Pairwise (fun x y => lsS x y = true)
  | 0, _ => ⟨fun t => by simp [ddN], List.Pairwise.nil⟩
  | k + 1, hk => by
    obtain ⟨h1, h2⟩ := ddN_law hs k (by omega)
    have hle : ∀ i j, i < j → j < L.length → by_ L[i]! ≤ by_ L[j]! := fun i j hij hj => by
      rw [getElem!_pos L i (by omega), getElem!_pos L j hj]
      exact List.pairwise_iff_getElem.1 hs i j (by omega) hj hij
    unfold ddN
    by_cases hc : 1 ≤ k ∧ L[k]! = L[k - 1]!
    · rw [if_pos hc]
      refine ⟨fun t => ?_, h2⟩
      rw [h1 t]
      constructor
      · rintro ⟨i, hi, e⟩; exact ⟨i, by omega, e⟩
      · rintro ⟨i, hi, e⟩
        by_cases hik : i = k
        · subst hik; exact ⟨i - 1, by omega, by rw [← hc.2]; exact e⟩
        · exact ⟨i, by omega, e⟩
    · rw [if_neg hc]
      refine ⟨fun t => ?_, ?_⟩
      · rw [List.mem_append, h1 t, List.mem_singleton]
        constructor
        · rintro (⟨i, hi, e⟩ | e)
          · exact ⟨i, by omega, e⟩
          · exact ⟨k, by omega, e.symm⟩
        · rintro ⟨i, hi, e⟩
          by_cases hik : i = k
          · subst hik; exact .inr e.symm
          · exact .inl ⟨i, by omega, e⟩
      · rw [List.pairwise_append]
        refine ⟨h2, List.pairwise_singleton _ _, fun x hx y hy => ?_⟩
        obtain ⟨i, hi, e⟩ := (h1 x).1 hx
        have hy' : y = L[k]! := by simpa using hy
        subst hy'
        rw [← e]
        refine ls_of (hle i k hi (by omega)) fun heq => ?_
        apply hc
        refine ⟨by omega, ?_⟩
        by_cases hik : i = k - 1
        · rw [← hik]; exact heq.symm
        · have a1 := hle i (k - 1) (by omega) (by omega)
          have a2 := hle (k - 1) k (by omega) (by omega)
          rw [heq] at a1
          exact by_inj (List.le_antisymm a1 a2)

/-- The keys of both states, in order, each once. -/
def keysL (a b : List Rw) : List ByteArray := sortS (a.map key1 ++ b.map key1)
def keysD (a b : List Rw) : List ByteArray := ddN (fun i => (keysL a b)[i]!) (keysL a b).length
theorem keysD_sorted (a b : List Rw) : (keysD a b).Pairwise (fun x y => lsS x y = true) := (ddN_law (sortS_sorted _) _ (Nat.le_refl _)).2
theorem keysD_mem (a b : List Rw) (t : ByteArray) : t ∈ keysD a b ↔ t ∈ a.map key1 ∨ t ∈ b.map key1 := by
  have h := (ddN_law (L := keysL a b) (sortS_sorted _) (keysL a b).length (Nat.le_refl _)).1 t
  refine h.trans ?_
  rw [← List.mem_append, ← (sortS_perm (a.map key1 ++ b.map key1)).mem_iff]
  show _ ↔ t ∈ keysL a b
  constructor
  · rintro ⟨i, hi, e⟩
    rw [← e, getElem!_pos _ i hi]
    exact List.getElem_mem hi
  · intro h
    obtain ⟨i, hi, e⟩ := List.mem_iff_getElem.1 h
    exact ⟨i, hi, by rw [getElem!_pos _ i hi]; exact e⟩
theorem keysD_ok {a b : List Rw} (ha : Fine a) (hb : Fine b) : KeysOf (keysD a b) a b := by
  refine ⟨(keysD_sorted a b).imp fun {x y} h e => ?_, fun t ht => ?_⟩
  · subst e
    rw [lsS_irr] at h
    cases h
  · rw [keysD_mem]
    rcases ht with ht | ht
    · left
      obtain ⟨x, hx⟩ := Option.ne_none_iff_exists'.1 ht
      obtain ⟨h1, h2⟩ := (getK_some ha.sorted).1 hx
      exact List.mem_map.2 ⟨x, h1, h2⟩
    · right
      obtain ⟨x, hx⟩ := Option.ne_none_iff_exists'.1 ht
      obtain ⟨h1, h2⟩ := (getK_some hb.sorted).1 hx
      exact List.mem_map.2 ⟨x, h1, h2⟩
end Go.Proofs.YtojnojjiblcmcaaDoor
