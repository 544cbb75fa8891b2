/- Plain laws: the changes between two states lead from one to the other. -/
import Derived.Test.YtojnojjiblcmcaaDoorB7
namespace Go.Proofs.YtojnojjiblcmcaaDoor
open Go.RowKit

structure Ch where
  key : ByteArray
  had : Bool
  has : Bool
  old : ByteArray
  new : ByteArray

def valK (l : List Rw) (t : ByteArray) : ByteArray := match getK key1 l t with | some x => x.2 | none => ByteArray.empty
def isK (l : List Rw) (t : ByteArray) : Bool := (getK key1 l t).isSome
def chOf (a b : List Rw) (t : ByteArray) : Ch := ⟨t, isK a t, isK b t, valK a t, valK b t⟩
def keepC (x : Ch) : Bool := decide (x.had ≠ x.has) || decide (x.old ≠ x.new)
def diffL (ks : List ByteArray) (a b : List Rw) : List Ch := (ks.map (chOf a b)).filter keepC

theorem isK_has {l : List Rw} (h : SortedK key1 l) (t : ByteArray) : isK l t = hasK key1 l t := by
  unfold isK
  rw [getK_eq h]
  cases hasK key1 l t <;> rfl
theorem state_ext {l m : List Rw} (hl : SortedK key1 l) (hm : SortedK key1 m) (h : ∀ t, getK key1 l t = getK key1 m t) : l = m := by
  refine sorted_ext hl hm fun y => ?_
  have e1 := getK_some (k := key1) hl (t := key1 y) (y := y)
  have e2 := getK_some (k := key1) hm (t := key1 y) (y := y)
  rw [h] at e1
  constructor
  · intro hy; exact (e2.1 (e1.2 ⟨hy, rfl⟩)).1
  · intro hy; exact (e1.1 (e2.2 ⟨hy, rfl⟩)).1
theorem same_of {a b : List Rw} (ha : SortedK key1 a) (hb : SortedK key1 b) {t : ByteArray} (h : keepC (chOf a b t) = false) : getK key1 a t = getK key1 b t := by
  unfold keepC chOf isK valK at h
  simp only [Bool.or_eq_false_iff, decide_eq_false_iff_not, Decidable.not_not] at h
  cases h1 : getK key1 a t with
  | none =>
    cases h2 : getK key1 b t with
    | none => rfl
    | some y => rw [h1, h2] at h; simp at h
  | some x =>
    cases h2 : getK key1 b t with
    | none => rw [h1, h2] at h; simp at h
    | some y =>
      rw [h1, h2] at h
      have e1 := ((getK_some ha).1 h1).2
      have e2 := ((getK_some hb).1 h2).2
      have : x = y := Prod.ext (e1.trans e2.symm) h.2
      rw [this]

/-- What Apply does with the changes. -/
def applyC : List Rw → List Ch → List Rw × Int
  | l, [] => (l, 0)
  | l, x :: r =>
    if hasK key1 l x.key ≠ x.had ∨ (hasK key1 l x.key = true ∧ valK l x.key ≠ x.old) then ([], 11)
    else if x.has = true ∧ (keyB x.key && valB x.new) = false then ([], 3)
    else if x.has = true then applyC (putK key1 l (x.key, x.new)) r
    else if hasK key1 l x.key = true then applyC (cutK key1 l x.key) r
    else applyC l r

theorem applyC_cons (l : List Rw) (x : Ch) (r : List Ch) : applyC l (x :: r) =
    if hasK key1 l x.key ≠ x.had ∨ (hasK key1 l x.key = true ∧ valK l x.key ≠ x.old) then ([], 11)
    else if x.has = true ∧ (keyB x.key && valB x.new) = false then ([], 3)
    else if x.has = true then applyC (putK key1 l (x.key, x.new)) r
    else if hasK key1 l x.key = true then applyC (cutK key1 l x.key) r
    else applyC l r := rfl
theorem applyC_append : ∀ (d : List Ch) (f : List Ch) (l m : List Rw), applyC l d = (m, 0) → applyC l (d ++ f) = applyC m f
  | [], f, l, m, h => by
    have h : (l, (0 : Int)) = (m, 0) := h
    rw [(Prod.mk.inj h).1]; rfl
  | x :: d, f, l, m, h => by
    rw [List.cons_append, applyC_cons]
    rw [applyC_cons] at h
    by_cases c1 : hasK key1 l x.key ≠ x.had ∨ (hasK key1 l x.key = true ∧ valK l x.key ≠ x.old)
    · rw [if_pos c1] at h; cases (Prod.mk.inj h).2
    · rw [if_neg c1] at h ⊢
      by_cases c2 : x.has = true ∧ (keyB x.key && valB x.new) = false
      · rw [if_pos c2] at h; cases (Prod.mk.inj h).2
      · rw [if_neg c2] at h ⊢
        by_cases c3 : x.has = true
        · rw [if_pos c3] at h ⊢
          exact applyC_append d f _ m h
        · rw [if_neg c3] at h ⊢
          by_cases c4 : hasK key1 l x.key = true
          · rw [if_pos c4] at h ⊢
            exact applyC_append d f _ m h
          · rw [if_neg c4] at h ⊢
            exact applyC_append d f _ m h

/-- Applying the changes for the keys that are left. -/
theorem apply_from {a b : List Rw} (ha : SortedK key1 a) (hb : Fine b) : ∀ (ks : List ByteArray) (s : List Rw), ks.Nodup → SortedK key1 s → (∀ t, t ∈ ks → getK key1 s t = getK key1 a t) →
    ∃ s', applyC s (diffL ks a b) = (s', 0) ∧ SortedK key1 s' ∧ (∀ t, t ∈ ks → getK key1 s' t = getK key1 b t) ∧ ∀ t, t ∉ ks → getK key1 s' t = getK key1 s t
  | [], s, _, hs, _ => ⟨s, rfl, hs, fun t ht => absurd ht List.not_mem_nil, fun _ _ => rfl⟩
  | k :: ks, s, hn, hs, hg => by
    obtain ⟨hk, hn'⟩ := List.nodup_cons.1 hn
    have hgk := hg k (by simp)
    by_cases hq : keepC (chOf a b k) = true
    · have hd : diffL (k :: ks) a b = chOf a b k :: diffL ks a b := by
        unfold diffL; rw [List.map_cons, List.filter_cons_of_pos hq]
      have his : hasK key1 s k = isK a k := by
        rw [← isK_has hs]; unfold isK; rw [hgk]
      have hvs : valK s k = valK a k := by unfold valK; rw [hgk]
      have c1 : ¬ (hasK key1 s (chOf a b k).key ≠ (chOf a b k).had ∨ (hasK key1 s (chOf a b k).key = true ∧ valK s (chOf a b k).key ≠ (chOf a b k).old)) := by
        show ¬ (hasK key1 s k ≠ isK a k ∨ (hasK key1 s k = true ∧ valK s k ≠ valK a k))
        rw [his, hvs]; simp
      rw [hd]
      rw [applyC_cons, if_neg c1]
      by_cases c3 : isK b k = true
      · obtain ⟨y, hy⟩ := Option.isSome_iff_exists.1 c3
        obtain ⟨hyb, hyk⟩ := (getK_some hb.sorted).1 hy
        have hvb : valK b k = y.2 := by unfold valK; rw [hy]
        have hfk := hb.key y hyb
        have c2 : ¬ ((chOf a b k).has = true ∧ (keyB (chOf a b k).key && valB (chOf a b k).new) = false) := by
          show ¬ (isK b k = true ∧ (keyB k && valB (valK b k)) = false)
          rw [hvb, ← show key1 y = k from hyk]
          rw [show keyB (key1 y) = true from hfk.1, hfk.2]; simp
        rw [if_neg c2, if_pos (show (chOf a b k).has = true from c3)]
        have hs' := putK_sorted hs ((k, valK b k) : Rw)
        have hgp := fun t => getK_put (k := key1) hs ((k, valK b k) : Rw) t
        obtain ⟨s', h1, h2, h3, h4⟩ := apply_from ha hb ks (putK key1 s (k, valK b k)) hn' hs' (fun t ht => by
          rw [hgp t, if_neg (fun e => hk (by rw [show k = t from e]; exact ht))]
          exact hg t (by simp [ht]))
        refine ⟨s', h1, h2, fun t ht => ?_, fun t ht => ?_⟩
        · rcases List.mem_cons.1 ht with rfl | ht
          · rw [h4 _ hk, hgp, if_pos rfl, hy, hvb]
            exact congrArg some (Prod.ext hyk.symm rfl)
          · exact h3 t ht
        · have h5 : k ≠ t := fun e => ht (by rw [e]; simp)
          rw [h4 t (fun h => ht (by simp [h])), hgp, if_neg (show ¬ key1 ((k, valK b k) : Rw) = t from h5)]
      · have c3' : isK b k = false := by simpa using c3
        have hnb : getK key1 b k = none := by unfold isK at c3'; simpa using c3'
        have hak : isK a k = true := by
          cases hh : isK a k with
          | true => rfl
          | false =>
            exfalso
            have hna : getK key1 a k = none := by unfold isK at hh; simpa using hh
            unfold keepC chOf isK valK at hq
            rw [hna, hnb] at hq
            simp at hq
        have hsk : hasK key1 s k = true := his.trans hak
        rw [if_neg (show ¬ ((chOf a b k).has = true ∧ _) from fun h => c3 h.1), if_neg (show ¬ (chOf a b k).has = true from c3), if_pos (show hasK key1 s (chOf a b k).key = true from hsk)]
        have hs' := cutK_sorted hs k
        have hgc := fun t => getK_cut (k := key1) hs hsk t
        obtain ⟨s', h1, h2, h3, h4⟩ := apply_from ha hb ks (cutK key1 s k) hn' hs' (fun t ht => by
          rw [hgc t, if_neg (fun e => hk (by rw [← e]; exact ht))]
          exact hg t (by simp [ht]))
        refine ⟨s', h1, h2, fun t ht => ?_, fun t ht => ?_⟩
        · rcases List.mem_cons.1 ht with rfl | ht
          · rw [h4 _ hk, hgc, if_pos rfl, hnb]
          · exact h3 t ht
        · have h5 : t ≠ k := fun e => ht (by rw [e]; simp)
          rw [h4 t (fun h => ht (by simp [h])), hgc, if_neg h5]
    · have hq' : keepC (chOf a b k) = false := by simpa using hq
      have hd : diffL (k :: ks) a b = diffL ks a b := by
        unfold diffL; rw [List.map_cons, List.filter_cons_of_neg (by simp [hq'])]
      rw [hd]
      obtain ⟨s', h1, h2, h3, h4⟩ := apply_from ha hb ks s hn' hs (fun t ht => hg t (by simp [ht]))
      refine ⟨s', h1, h2, fun t ht => ?_, fun t ht => h4 t (fun h => ht (by simp [h]))⟩
      rcases List.mem_cons.1 ht with rfl | ht
      · rw [h4 _ hk, hgk, same_of ha hb.sorted hq']
      · exact h3 t ht

/-- The keys of two states. -/
def KeysOf (ks : List ByteArray) (a b : List Rw) : Prop := ks.Nodup ∧ ∀ t, getK key1 a t ≠ none ∨ getK key1 b t ≠ none → t ∈ ks

theorem apply_diff {ks : List ByteArray} {a b : List Rw} (hk : KeysOf ks a b) (ha : Fine a) (hb : Fine b) : applyC a (diffL ks a b) = (b, 0) := by
  obtain ⟨s', h1, h2, h3, h4⟩ := apply_from ha.sorted hb ks a hk.1 ha.sorted (fun _ _ => rfl)
  rw [h1]
  have : s' = b := state_ext h2 hb.sorted fun t => by
    cases ha' : getK key1 a t with
    | some x => exact h3 t (hk.2 t (.inl (by rw [ha']; simp)))
    | none =>
      cases hb' : getK key1 b t with
      | some x => rw [← hb']; exact h3 t (hk.2 t (.inr (by rw [hb']; simp)))
      | none =>
        by_cases ht : t ∈ ks
        · rw [h3 t ht, hb']
        · rw [h4 t ht, ha']
  rw [this]

theorem diff_self {ks : List ByteArray} {a : List Rw} : diffL ks a a = [] := by
  unfold diffL
  rw [List.filter_eq_nil_iff]
  intro x hx
  obtain ⟨t, _, rfl⟩ := List.mem_map.1 hx
  simp [keepC, chOf]
theorem diff_nil {ks : List ByteArray} {a b : List Rw} (hk : KeysOf ks a b) (ha : Fine a) (hb : Fine b) : diffL ks a b = [] ↔ a = b := by
  constructor
  · intro h
    have := apply_diff hk ha hb
    rw [h] at this
    exact (Prod.mk.inj this).1
  · rintro rfl; exact diff_self

def swapC (x : Ch) : Ch := ⟨x.key, x.has, x.had, x.new, x.old⟩
theorem swap_keep (x : Ch) : keepC (swapC x) = keepC x := by
  unfold keepC swapC
  simp only [ne_comm]
theorem diff_turned (ks : List ByteArray) (a b : List Rw) : (diffL ks a b).reverse.map swapC = diffL ks.reverse b a := by
  have e : keepC ∘ chOf b a = keepC ∘ chOf a b := by
    funext t
    exact swap_keep (chOf a b t)
  unfold diffL
  rw [List.filter_map, List.filter_map, e, List.filter_reverse, ← List.map_reverse, List.map_map]
  rfl
end Go.Proofs.YtojnojjiblcmcaaDoor
