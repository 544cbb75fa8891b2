/- Package contact: words of ContactOne: Contains, IsSorted; the plain law. -/
import Derived.Test.YtjlbhifkhbpddaaA4
namespace Go.Proofs.Ytjlbhifkhbpddaa
open Go.RowKit

theorem Has_any (base n c : Nat) (A : Option Addr) (zs : List ByteArray) (x : ByteArray) (w : World) (hown : w.ownsRow base 9 1 (.slice A n c) n (rowsV strE zs)) (hz : zs.length = n) (hn : n ≤ 1000) :
    Calls Try.prog 8 #[.slice A n c, .string x] w fun e w' => e = .returned (.bool (Lib.containsS zs x)) ∧ w = w' := by
  rcases Nat.eq_zero_or_pos n with h0 | h0
  · subst h0
    have hz0 := List.eq_nil_of_length_eq_zero hz
    subst hz0
    exact (Any.slices_Contains_string_empty Try.lays110 A c x w).mono fun _ _ h => ⟨h.1, h.2.symm⟩
  · obtain ⟨b, cap, hv, _, _⟩ := hown.form h0
    have hA : A = some ⟨b, 0, none⟩ := by injection hv
    subst hA
    have hcon := Any.slices_Contains_string Try.lays110 b 0 n c zs x w (by omega) (by omega) (fun j hj => by
      have h := rowsV_at (k := 1) strE_len zs j hj 0 (by decide)
      rw [Nat.zero_add, hown.cellAt j (by omega)]
      rw [Nat.mul_one, Nat.add_zero] at h
      rw [h, List.getD_eq_getElem?_getD, List.getElem?_eq_getElem hj]
      rfl)
    rw [List.take_of_length_le (by omega)] at hcon
    exact hcon.mono fun _ _ h => ⟨h.1, h.2.symm⟩

theorem Ordered_any (base n c : Nat) (A : Option Addr) (zs : List ByteArray) (w : World) (hown : w.ownsRow base 9 1 (.slice A n c) n (rowsV strE zs)) (hz : zs.length = n) (hn : n ≤ 1000)
    (hs : zs.Pairwise fun x y => lsS x y = true) : Calls Try.prog 11 #[.slice A n c] w fun e w' => e = .returned (.bool true) ∧ ∃ q, w' = w.drewN q := by
  rcases Nat.eq_zero_or_pos n with h0 | h0
  · subst h0
    exact (AnyO.slices_IsSorted_string_none Try.l11 A c w).mono fun _ _ h => ⟨h.1, 0, h.2⟩
  · obtain ⟨b, cap, hv, _, _⟩ := hown.form h0
    have hA : A = some ⟨b, 0, none⟩ := by injection hv
    subst hA
    have hcon := AnyO.slices_IsSorted_string Try.l11 b 0 c zs.toArray w (fun j hj => by
      have hj : j < zs.length := by simpa using hj
      have h := rowsV_at (k := 1) strE_len zs j hj 0 (by decide)
      rw [Nat.zero_add, hown.cellAt j (by omega)]
      rw [Nat.mul_one, Nat.add_zero] at h
      rw [h, getElem!_pos zs.toArray j (by simpa using hj)]
      simp [strE]) (by simp; omega)
    have hd : Lib.downOK (fun x y : ByteArray => decide (x.data.toList < y.data.toList)) zs.toArray (zs.toArray.size - 1) = true := by
      rw [Lib.downOK_iff]
      intro i hi
      have hi : i + 1 < zs.length := by simp at hi; omega
      have h1 : lsS zs[i] zs[i + 1] = true := List.pairwise_iff_getElem.1 hs i (i + 1) (by omega) hi (by omega)
      have h2 := lsS_asymm h1
      rw [getElem!_pos zs.toArray (i + 1) (by simpa using hi), getElem!_pos zs.toArray i (by simp; omega)]
      simp only [List.getElem_toArray]
      rw [Bool.eq_false_iff] at h2
      rw [decide_eq_false_iff_not]
      intro h3
      refine h2 (lsS_iff.2 ?_)
      rw [ByteArray.toList_eq, ByteArray.toList_eq]; exact h3
    rw [hd] at hcon
    have hsz : zs.toArray.size = n := by simpa using hz
    rw [hsz] at hcon
    exact hcon

/-- What holds of all contacts. -/
structure Good (l : List Cs) : Prop where
  sorted : SortedC l
  valid : ∀ x ∈ l, validF x.2.1 = true

theorem on_sorted {l : List Cs} (h : SortedC l) (f : Int) : (onL l f).Pairwise fun x y => lsS x y = true := by
  unfold onL
  rw [List.pairwise_map]
  exact h.filter _
theorem mem_on {l : List Cs} {x : Cs} (h : x ∈ l) : Lib.containsS (onL l x.2.1) x.1 = true := by
  rw [Lib.containsS_iff]
  unfold onL
  rw [List.mem_map]
  exact ⟨x, List.mem_filter.2 ⟨h, by simp⟩, rfl⟩

theorem put_mem (l : List Cs) (x : Cs) : x ∈ putC l x := by
  unfold putC
  by_cases h : hasC l x.1 = true
  · rw [if_pos h]
    exact List.mem_iff_getElem.2 ⟨lowC l x.1, by rw [List.length_set]; exact (has_at h).1, by simp⟩
  · rw [if_neg h]; simp
theorem put_len (l : List Cs) (x : Cs) : (putC l x).length ≤ l.length + 1 := by
  have := low_le l x.1
  unfold putC
  split
  · simp
  · simp; omega
theorem put_good {l : List Cs} (h : Good l) (x : Cs) (hv : validF x.2.1 = true) : Good (putC l x) := by
  obtain ⟨h1, h2⟩ := low_sorted x.1 l h.sorted
  have hle := low_le l x.1
  unfold putC
  by_cases hh : hasC l x.1 = true
  · rw [if_pos hh]
    obtain ⟨g1, g2⟩ := has_at hh
    rw [getElem!_pos l _ g1] at g2
    refine ⟨?_, fun y hy => ?_⟩
    · unfold SortedC
      rw [List.pairwise_iff_getElem]
      intro i j hi hj hij
      rw [List.length_set] at hi hj
      have hp := List.pairwise_iff_getElem.1 h.sorted i j hi hj hij
      rw [List.getElem_set, List.getElem_set]
      by_cases e1 : lowC l x.1 = i
      · subst e1
        rw [if_pos rfl, if_neg (by omega)]; rw [g2] at hp; exact hp
      · by_cases e2 : lowC l x.1 = j
        · subst e2
          rw [if_neg e1, if_pos rfl]; rw [g2] at hp; exact hp
        · rw [if_neg e1, if_neg e2]; exact hp
    · rcases List.mem_or_eq_of_mem_set hy with hy | rfl
      · exact h.valid y hy
      · exact hv
  · rw [if_neg hh]
    have hne : ∀ (hlt : lowC l x.1 < l.length), lsS x.1 (l[lowC l x.1]).1 = true := fun hlt => by
      have a := h2 (lowC l x.1) (Nat.le_refl _) hlt
      rw [getElem!_pos l _ hlt] at a
      have hc : ¬ cmpS (l[lowC l x.1]).1 x.1 = 0 := fun e => hh (by
        unfold hasC
        rw [getElem!_pos l _ hlt]
        simp [hlt, e])
      cases e : lsS x.1 (l[lowC l x.1]).1 with
      | true => rfl
      | false => exact absurd (cmpS_eq.2 (lsS_anti a e)) hc
    have hafter : ∀ y ∈ l.drop (lowC l x.1), lsS x.1 y.1 = true := fun y hy => by
      obtain ⟨i, hi, rfl⟩ := List.mem_iff_getElem.1 hy
      rw [List.length_drop] at hi
      have hlt : lowC l x.1 < l.length := by omega
      rw [List.getElem_drop]
      rcases Nat.eq_zero_or_pos i with h0 | h0
      · subst h0; exact hne hlt
      · exact lsS_tr (hne hlt) (List.pairwise_iff_getElem.1 h.sorted _ _ hlt (by omega) (by omega))
    have hbefore : ∀ y ∈ l.take (lowC l x.1), lsS y.1 x.1 = true := fun y hy => by
      obtain ⟨i, hi, rfl⟩ := List.mem_iff_getElem.1 hy
      rw [List.length_take] at hi
      have := h1 i (by omega)
      rw [getElem!_pos l i (by omega)] at this
      rw [List.getElem_take]; exact this
    refine ⟨?_, fun y hy => ?_⟩
    · unfold SortedC
      rw [List.pairwise_append]
      refine ⟨h.sorted.sublist (List.take_sublist _ _), List.pairwise_cons.2 ⟨hafter, h.sorted.sublist (List.drop_sublist _ _)⟩, fun a ha b hb => ?_⟩
      rcases List.mem_cons.1 hb with rfl | hb
      · exact hbefore a ha
      · exact lsS_tr (hbefore a ha) (hafter b hb)
    · rw [List.mem_append, List.mem_cons] at hy
      rcases hy with hy | rfl | hy
      · exact h.valid y (List.mem_of_mem_take hy)
      · exact hv
      · exact h.valid y (List.mem_of_mem_drop hy)
theorem good_nil : Good [] := ⟨List.Pairwise.nil, fun _ h => by cases h⟩

/-- Has the frequency f been met among the first k? -/
def metF (l : List Cs) (k : Nat) (f : Int) : Bool := (l.take k).any fun y => y.2.1 == f
theorem met_zero (l : List Cs) (f : Int) : metF l 0 f = false := by simp [metF]
theorem met_step (l : List Cs) (f : Int) {k : Nat} (hk : k < l.length) : metF l (k + 1) f = (metF l k f || l[k].2.1 == f) := by
  unfold metF
  rw [List.take_succ_eq_append_getElem hk, List.any_append]
  simp
/-- How many contacts have a frequency that has been met among the first k. -/
def manyC (l : List Cs) (k : Nat) : Nat := l.countP fun x => metF l k x.2.1
theorem many_zero (l : List Cs) : manyC l 0 = 0 := by
  unfold manyC
  rw [List.countP_eq_zero]
  intro x _
  rw [met_zero]; simp
theorem many_le (l : List Cs) (k : Nat) : manyC l k ≤ l.length := List.countP_le_length
theorem many_all (l : List Cs) : manyC l l.length = l.length := by
  unfold manyC
  rw [List.countP_eq_length]
  intro x hx
  unfold metF
  rw [List.take_length, List.any_eq_true]
  exact ⟨x, hx, by simp⟩
theorem on_len (l : List Cs) (f : Int) : (onL l f).length = l.countP fun x => x.2.1 == f := by
  unfold onL
  rw [List.length_map, List.countP_eq_length_filter]
theorem countP_or {α : Type} (p q : α → Bool) (l : List α) (h : ∀ x ∈ l, p x = true → q x = false) : l.countP (fun x => p x || q x) = l.countP p + l.countP q := by
  induction l with
  | nil => rfl
  | cons x l ih =>
    rw [List.countP_cons, List.countP_cons, List.countP_cons, ih (fun y hy => h y (List.mem_cons_of_mem _ hy))]
    cases hp : p x with
    | true => rw [h x List.mem_cons_self hp]; simp; omega
    | false => cases q x <;> simp; omega
theorem many_new (l : List Cs) {k : Nat} (hk : k < l.length) (h : metF l k l[k].2.1 = false) : manyC l (k + 1) = manyC l k + (onL l l[k].2.1).length := by
  rw [on_len]
  unfold manyC
  rw [← countP_or (fun x => metF l k x.2.1) (fun x => x.2.1 == l[k].2.1) l (fun x _ hx => by
    by_cases e : x.2.1 = l[k].2.1
    · rw [e] at hx; rw [h] at hx; cases hx
    · simpa using e)]
  congr 1
  funext x
  rw [met_step l _ hk]
  congr 1
  rw [Bool.eq_iff_iff]; simp; exact eq_comm
theorem many_old (l : List Cs) {k : Nat} (hk : k < l.length) (h : metF l k l[k].2.1 = true) : manyC l (k + 1) = manyC l k := by
  unfold manyC
  congr 1
  funext x
  rw [met_step l _ hk]
  by_cases e : l[k].2.1 = x.2.1
  · rw [← e, h]; rfl
  · have : (l[k].2.1 == x.2.1) = false := by simpa using e
    rw [this, Bool.or_false]
end Go.Proofs.Ytjlbhifkhbpddaa
