/- Lists in order by a key that is a string: where a key stands, putting in, cutting out, looking up. -/
import Derived.Test.YtjmdebeffpdpcaaGreatDoorStr
namespace Go.Proofs.YtjmdebeffpdpcaaGreatDoor

section
variable {α : Type} [Inhabited α] (k : α → ByteArray)

def SortedK (l : List α) : Prop := l.Pairwise fun x y => lsS (k x) (k y) = true
/-- How many stand before a key. -/
def lowK (l : List α) (t : ByteArray) : Nat := l.countP fun x => lsS (k x) t
def hasK (l : List α) (t : ByteArray) : Bool := decide (lowK k l t < l.length) && decide (cmpS (k l[lowK k l t]!) t = 0)
def putK (l : List α) (x : α) : List α := if hasK k l (k x) = true then l.set (lowK k l (k x)) x else l.take (lowK k l (k x)) ++ x :: l.drop (lowK k l (k x))
def cutK (l : List α) (t : ByteArray) : List α := l.take (lowK k l t) ++ l.drop (lowK k l t + 1)
def getK (l : List α) (t : ByteArray) : Option α := l.find? fun x => decide (k x = t)

variable {k}
omit [Inhabited α] in
theorem lowK_le (l : List α) (t : ByteArray) : lowK k l t ≤ l.length := List.countP_le_length
theorem lowK_sorted (t : ByteArray) : ∀ (l : List α), SortedK k l → (∀ i, i < lowK k l t → lsS (k l[i]!) t = true) ∧ (∀ i, lowK k l t ≤ i → i < l.length → lsS (k l[i]!) t = false)
  | [], _ => ⟨fun i hi => by simp [lowK] at hi, fun i _ h => by simp at h⟩
  | x :: l, hs => by
    obtain ⟨h1, h2⟩ := List.pairwise_cons.1 hs
    obtain ⟨a, b⟩ := lowK_sorted t l h2
    by_cases hx : lsS (k x) t = true
    · have e : lowK k (x :: l) t = lowK k l t + 1 := by unfold lowK; rw [List.countP_cons, if_pos hx]
      rw [e]
      refine ⟨fun i hi => ?_, fun i h3 h4 => ?_⟩
      · cases i with
        | zero => simpa using hx
        | succ i => simpa using a i (by omega)
      · cases i with
        | zero => omega
        | succ i => simpa using b i (by omega) (by simpa using h4)
    · have hall : ∀ y ∈ l, lsS (k y) t = false := fun y hy => by
        rw [Bool.eq_false_iff]; intro h
        exact hx (lsS_tr (h1 y hy) h)
      have e : lowK k (x :: l) t = 0 := by
        unfold lowK
        rw [List.countP_eq_zero]
        intro y hy
        rcases List.mem_cons.1 hy with rfl | hy
        · exact hx
        · rw [hall y hy]; simp
      rw [e]
      refine ⟨fun i hi => absurd hi (Nat.not_lt_zero _), fun i _ h4 => ?_⟩
      cases i with
      | zero => simpa using hx
      | succ i =>
        have h5 : i < l.length := by simpa using h4
        have := hall l[i] (List.getElem_mem h5)
        simpa [h5] using this
theorem hasK_at {l : List α} {t : ByteArray} (h : hasK k l t = true) : lowK k l t < l.length ∧ k l[lowK k l t]! = t := by
  unfold hasK at h
  simp only [Bool.and_eq_true, decide_eq_true_eq] at h
  exact ⟨h.1, cmpS_eq.1 h.2⟩
omit [Inhabited α] in
theorem keyK_ne {l : List α} (hs : SortedK k l) {i j : Nat} (hi : i < l.length) (hj : j < l.length) (h : i ≠ j) : k l[i] ≠ k l[j] := by
  intro e
  rcases Nat.lt_or_gt_of_ne h with h | h
  · have := List.pairwise_iff_getElem.1 hs i j hi hj h
    rw [e, lsS_irr] at this; cases this
  · have := List.pairwise_iff_getElem.1 hs j i hj hi h
    rw [e, lsS_irr] at this; cases this
omit [Inhabited α] in
theorem uniqK {l : List α} (hs : SortedK k l) {x y : α} (hx : x ∈ l) (hy : y ∈ l) (e : k x = k y) : x = y := by
  obtain ⟨i, hi, rfl⟩ := List.mem_iff_getElem.1 hx
  obtain ⟨j, hj, rfl⟩ := List.mem_iff_getElem.1 hy
  by_cases h : i = j
  · subst h; rfl
  · exact absurd e (keyK_ne hs hi hj h)
omit [Inhabited α] in
theorem getK_some {l : List α} (hs : SortedK k l) {t : ByteArray} {y : α} : getK k l t = some y ↔ y ∈ l ∧ k y = t := by
  unfold getK
  constructor
  · intro h
    exact ⟨List.mem_of_find?_eq_some h, by simpa using List.find?_some h⟩
  · rintro ⟨h1, h2⟩
    cases h : l.find? (fun x => decide (k x = t)) with
    | none =>
      rw [List.find?_eq_none] at h
      exact absurd (by simpa using h2) (h y h1)
    | some z =>
      have hz := List.mem_of_find?_eq_some h
      have hk : k z = t := by simpa using List.find?_some h
      rw [uniqK hs hz h1 (hk.trans h2.symm)]
theorem hasK_no {l : List α} (hs : SortedK k l) {t : ByteArray} (h : hasK k l t = false) : ∀ y ∈ l, k y ≠ t := by
  intro y hy e
  obtain ⟨i, hi, rfl⟩ := List.mem_iff_getElem.1 hy
  obtain ⟨h1, h2⟩ := lowK_sorted t l hs
  rcases Nat.lt_or_ge i (lowK k l t) with hlt | hge
  · have := h1 i hlt
    rw [getElem!_pos l i hi, e, lsS_irr] at this; cases this
  · have hlow : lowK k l t < l.length := by omega
    rcases Nat.eq_or_lt_of_le hge with he | hgt
    · have : hasK k l t = true := by
        unfold hasK
        have e2 : k l[lowK k l t]! = t := by rw [he, getElem!_pos l i hi]; exact e
        rw [e2]
        simp [hlow, cmpS_eq.2]
      rw [this] at h; cases h
    · have a := List.pairwise_iff_getElem.1 hs (lowK k l t) i hlow hi hgt
      have b := h2 (lowK k l t) (Nat.le_refl _) hlow
      rw [getElem!_pos l _ hlow] at b
      rw [e, b] at a; cases a
theorem getK_eq {l : List α} (hs : SortedK k l) (t : ByteArray) : getK k l t = if hasK k l t = true then some l[lowK k l t]! else none := by
  cases h : hasK k l t with
  | true =>
    obtain ⟨h1, h2⟩ := hasK_at h
    rw [if_pos rfl]
    exact (getK_some hs).2 ⟨by rw [getElem!_pos l _ h1]; exact List.getElem_mem h1, h2⟩
  | false =>
    rw [if_neg (by decide)]
    cases hg : getK k l t with
    | none => rfl
    | some y =>
      obtain ⟨a, b⟩ := (getK_some hs).1 hg
      exact absurd b (hasK_no hs h y a)

theorem putK_len (l : List α) (x : α) : (putK k l x).length ≤ l.length + 1 := by
  have := lowK_le (k := k) l (k x)
  unfold putK
  split
  · simp
  · simp; omega
theorem putK_mem {l : List α} (hs : SortedK k l) {x y : α} : y ∈ putK k l x ↔ y = x ∨ (y ∈ l ∧ k y ≠ k x) := by
  unfold putK
  cases h : hasK k l (k x) with
  | true =>
    obtain ⟨h1, h2⟩ := hasK_at h
    rw [getElem!_pos l _ h1] at h2
    rw [if_pos rfl]
    constructor
    · intro hy
      obtain ⟨j, hj, rfl⟩ := List.mem_iff_getElem.1 hy
      rw [List.length_set] at hj
      rw [List.getElem_set]
      by_cases e : lowK k l (k x) = j
      · rw [if_pos e]; exact .inl rfl
      · rw [if_neg e]
        refine .inr ⟨List.getElem_mem hj, fun e' => ?_⟩
        exact keyK_ne hs h1 hj e (h2.trans e'.symm)
    · rintro (rfl | ⟨hy, hne⟩)
      · exact List.mem_iff_getElem.2 ⟨lowK k l (k y), by rw [List.length_set]; exact h1, by simp⟩
      · obtain ⟨j, hj, rfl⟩ := List.mem_iff_getElem.1 hy
        have e : lowK k l (k x) ≠ j := fun e => hne (by subst e; exact h2)
        exact List.mem_iff_getElem.2 ⟨j, by rw [List.length_set]; exact hj, by rw [List.getElem_set, if_neg e]⟩
  | false =>
    have hno := hasK_no hs h
    rw [if_neg (by decide), List.mem_append, List.mem_cons]
    constructor
    · rintro (hy | rfl | hy)
      · exact .inr ⟨List.mem_of_mem_take hy, hno y (List.mem_of_mem_take hy)⟩
      · exact .inl rfl
      · exact .inr ⟨List.mem_of_mem_drop hy, hno y (List.mem_of_mem_drop hy)⟩
    · rintro (rfl | ⟨hy, _⟩)
      · exact .inr (.inl rfl)
      · rw [← List.take_append_drop (lowK k l (k x)) l, List.mem_append] at hy
        rcases hy with hy | hy
        · exact .inl hy
        · exact .inr (.inr hy)
theorem putK_sorted {l : List α} (h : SortedK k l) (x : α) : SortedK k (putK k l x) := by
  obtain ⟨h1, h2⟩ := lowK_sorted (k x) l h
  unfold putK
  by_cases hh : hasK k l (k x) = true
  · rw [if_pos hh]
    obtain ⟨g1, g2⟩ := hasK_at hh
    rw [getElem!_pos l _ g1] at g2
    unfold SortedK
    rw [List.pairwise_iff_getElem]
    intro i j hi hj hij
    rw [List.length_set] at hi hj
    have hp := List.pairwise_iff_getElem.1 h i j hi hj hij
    rw [List.getElem_set, List.getElem_set]
    by_cases e1 : lowK k l (k x) = i
    · subst e1
      rw [if_pos rfl, if_neg (by omega)]; rw [g2] at hp; exact hp
    · by_cases e2 : lowK k l (k x) = j
      · subst e2
        rw [if_neg e1, if_pos rfl]; rw [g2] at hp; exact hp
      · rw [if_neg e1, if_neg e2]; exact hp
  · rw [if_neg hh]
    have hno := hasK_no h (by simpa using hh)
    have hafter : ∀ y ∈ l.drop (lowK k l (k x)), lsS (k x) (k y) = true := fun y hy => by
      obtain ⟨i, hi, rfl⟩ := List.mem_iff_getElem.1 hy
      rw [List.length_drop] at hi
      have hl := h2 (lowK k l (k x) + i) (by omega) (by omega)
      rw [getElem!_pos l _ (by omega)] at hl
      rw [List.getElem_drop]
      cases e : lsS (k x) (k l[lowK k l (k x) + i]) with
      | true => rfl
      | false => exact absurd (lsS_anti hl e) (hno _ (List.getElem_mem (by omega)))
    have hbefore : ∀ y ∈ l.take (lowK k l (k x)), lsS (k y) (k x) = true := fun y hy => by
      obtain ⟨i, hi, rfl⟩ := List.mem_iff_getElem.1 hy
      rw [List.length_take] at hi
      have := h1 i (by omega)
      rw [getElem!_pos l i (by omega)] at this
      rw [List.getElem_take]; exact this
    unfold SortedK
    rw [List.pairwise_append]
    refine ⟨h.sublist (List.take_sublist _ _), List.pairwise_cons.2 ⟨hafter, h.sublist (List.drop_sublist _ _)⟩, fun a ha b hb => ?_⟩
    rcases List.mem_cons.1 hb with rfl | hb
    · exact hbefore a ha
    · exact lsS_tr (hbefore a ha) (hafter b hb)
theorem getK_put {l : List α} (hs : SortedK k l) (x : α) (t : ByteArray) : getK k (putK k l x) t = if k x = t then some x else getK k l t := by
  have hp := putK_sorted hs x
  apply Option.ext
  intro y
  rw [getK_some hp, putK_mem hs]
  by_cases e : k x = t
  · subst e
    rw [if_pos rfl]
    constructor
    · rintro ⟨rfl | ⟨_, h1⟩, h2⟩
      · rfl
      · exact absurd h2 h1
    · intro h; injection h with h; subst h; exact ⟨.inl rfl, rfl⟩
  · rw [if_neg e, getK_some hs]
    constructor
    · rintro ⟨rfl | ⟨h0, h1⟩, h2⟩
      · exact absurd h2 e
      · exact ⟨h0, h2⟩
    · rintro ⟨h1, h2⟩
      exact ⟨.inr ⟨h1, fun h => e (h.symm.trans h2)⟩, h2⟩

theorem cutK_mem {l : List α} (hs : SortedK k l) {t : ByteArray} (h : hasK k l t = true) {y : α} : y ∈ cutK k l t ↔ y ∈ l ∧ k y ≠ t := by
  obtain ⟨h1, h2⟩ := hasK_at h
  rw [getElem!_pos l _ h1] at h2
  unfold cutK
  rw [List.mem_append]
  constructor
  · rintro (hy | hy)
    · obtain ⟨i, hi, rfl⟩ := List.mem_iff_getElem.1 hy
      rw [List.length_take] at hi
      rw [List.getElem_take]
      exact ⟨List.getElem_mem _, fun e => keyK_ne hs h1 (show i < l.length by omega) (by omega) (h2.trans e.symm)⟩
    · obtain ⟨i, hi, rfl⟩ := List.mem_iff_getElem.1 hy
      rw [List.length_drop] at hi
      rw [List.getElem_drop]
      exact ⟨List.getElem_mem _, fun e => keyK_ne hs h1 (show lowK k l t + 1 + i < l.length by omega) (by omega) (h2.trans e.symm)⟩
  · rintro ⟨hy, hne⟩
    obtain ⟨j, hj, rfl⟩ := List.mem_iff_getElem.1 hy
    have e : lowK k l t ≠ j := fun e => hne (by subst e; exact h2)
    rcases Nat.lt_or_gt_of_ne e with hlt | hgt
    · right
      refine List.mem_iff_getElem.2 ⟨j - (lowK k l t + 1), by rw [List.length_drop]; omega, ?_⟩
      rw [List.getElem_drop]
      congr 1
      omega
    · left
      refine List.mem_iff_getElem.2 ⟨j, by rw [List.length_take]; omega, ?_⟩
      rw [List.getElem_take]
omit [Inhabited α] in
theorem cutK_sub (l : List α) (t : ByteArray) : (cutK k l t).Sublist l := by
  unfold cutK
  conv => rhs; rw [← List.take_append_drop (lowK k l t) l]
  exact List.Sublist.append (List.Sublist.refl _) (by rw [← List.drop_drop]; exact List.drop_sublist _ _)
omit [Inhabited α] in
theorem cutK_sorted {l : List α} (h : SortedK k l) (t : ByteArray) : SortedK k (cutK k l t) := h.sublist (cutK_sub l t)
theorem getK_cut {l : List α} (hs : SortedK k l) {c : ByteArray} (h : hasK k l c = true) (t : ByteArray) : getK k (cutK k l c) t = if t = c then none else getK k l t := by
  have hp := cutK_sorted hs c
  apply Option.ext
  intro y
  rw [getK_some hp, cutK_mem hs h]
  by_cases e : t = c
  · subst e
    rw [if_pos rfl]
    constructor
    · rintro ⟨⟨_, h1⟩, h2⟩; exact absurd h2 h1
    · intro h; cases h
  · rw [if_neg e, getK_some hs]
    constructor
    · rintro ⟨⟨h0, _⟩, h2⟩; exact ⟨h0, h2⟩
    · rintro ⟨h1, h2⟩
      exact ⟨⟨h1, fun h => e (h2.symm.trans h)⟩, h2⟩
omit [Inhabited α] in
/-- Two lists in order with the same members are one. -/
theorem sorted_ext {l m : List α} (hl : SortedK k l) (hm : SortedK k m) (h : ∀ y, y ∈ l ↔ y ∈ m) : l = m := by
  refine List.Perm.eq_of_pairwise (le := fun x y => lsS (k x) (k y) = true) (fun a b _ _ h1 h2 => ?_) hl hm ?_
  · rw [lsS_asymm h1] at h2; cases h2
  · have nl : l.Nodup := hl.imp fun {a b} h e => by subst e; rw [lsS_irr] at h; cases h
    have nm : m.Nodup := hm.imp fun {a b} h e => by subst e; rw [lsS_irr] at h; cases h
    exact (List.perm_ext_iff_of_nodup nl nm).2 h
end
end Go.Proofs.YtjmdebeffpdpcaaGreatDoor
