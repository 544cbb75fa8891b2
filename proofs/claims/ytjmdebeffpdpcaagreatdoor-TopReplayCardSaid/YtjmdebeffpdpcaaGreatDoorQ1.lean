/- Plain law: entries can be applied in two parts. -/
import Derived.Test.YtjmdebeffpdpcaaGreatDoorK4
namespace Go.Proofs.YtjmdebeffpdpcaaGreatDoor
open Go.RowKit
open Go.Lib hiding intOf

theorem runG_cons (o : List Rw) (p : Option Int) (i : Nat) (x : Ent) (r : List Ent) : runG o p i (x :: r) = if p.any (fun q => decide (x.num ≠ q + 1)) = true then ([], i, 21) else if stC o x ≠ 0 then ([], i, stC o x) else runG (stR o x) (some x.num) (i + 1) r := rfl
theorem runG_nil (o : List Rw) (p : Option Int) (i : Nat) : runG o p i [] = (o, 0, 0) := rfl

theorem runG_err : ∀ (xs : List Ent) (o : List Rw) (p : Option Int) (i : Nat), (runG o p i xs).2.2 ≠ 0 → (runG o p i xs).1 = []
  | [], _, _, _, h => absurd rfl h
  | x :: xs, o, p, i, h => by
    unfold runG at h ⊢
    by_cases h1 : p.any (fun q => decide (x.num ≠ q + 1)) = true
    · rw [if_pos h1]
    · rw [if_neg h1] at h ⊢
      by_cases h2 : stC o x ≠ 0
      · rw [if_pos h2]
      · rw [if_neg h2] at h ⊢
        exact runG_err xs _ _ _ h

theorem runG_ok : ∀ (xs : List Ent) (o : List Rw) (p : Option Int) (i : Nat), (runG o p i xs).2.2 = 0 → (runG o p i xs).2.1 = 0
  | [], _, _, _, _ => rfl
  | x :: xs, o, p, i, h => by
    unfold runG at h ⊢
    by_cases h1 : p.any (fun q => decide (x.num ≠ q + 1)) = true
    · rw [if_pos h1] at h; cases h
    · rw [if_neg h1] at h ⊢
      by_cases h2 : stC o x ≠ 0
      · rw [if_pos h2] at h; exact absurd h h2
      · rw [if_neg h2] at h ⊢
        exact runG_ok xs _ _ _ h

theorem runG_fine : ∀ (xs : List Ent) (o : List Rw) (p : Option Int) (i : Nat), Fine o → (runG o p i xs).2.2 = 0 → Fine (runG o p i xs).1
  | [], _, _, _, hf, _ => hf
  | x :: xs, o, p, i, hf, h => by
    unfold runG at h ⊢
    by_cases h1 : p.any (fun q => decide (x.num ≠ q + 1)) = true
    · rw [if_pos h1] at h; cases h
    · rw [if_neg h1] at h ⊢
      by_cases h2 : stC o x ≠ 0
      · rw [if_pos h2] at h; exact absurd h h2
      · rw [if_neg h2] at h ⊢
        exact runG_fine xs _ _ _ (st_fine (by simpa using h2)) h

theorem runG_shift (d : Nat) : ∀ (xs : List Ent) (o : List Rw) (p : Option Int) (i : Nat), runG o p (i + d) xs = ((runG o p i xs).1, (if (runG o p i xs).2.2 ≠ 0 then (runG o p i xs).2.1 + d else (runG o p i xs).2.1), (runG o p i xs).2.2)
  | [], _, _, _ => rfl
  | x :: xs, o, p, i => by
    unfold runG
    by_cases h1 : p.any (fun q => decide (x.num ≠ q + 1)) = true
    · rw [if_pos h1, if_pos h1]; rfl
    · rw [if_neg h1, if_neg h1]
      by_cases h2 : stC o x ≠ 0
      · rw [if_pos h2, if_pos h2]
        simp only
        rw [if_pos h2]
      · rw [if_neg h2, if_neg h2, show i + d + 1 = i + 1 + d by omega]
        exact runG_shift d xs _ _ _

theorem runG_split : ∀ (xs ys : List Ent) (o : List Rw) (p : Option Int) (i : Nat), runG o p i (xs ++ ys) =
    if (runG o p i xs).2.2 ≠ 0 then runG o p i xs else runG (runG o p i xs).1 (match xs.getLast? with | some x => some x.num | none => p) (i + xs.length) ys
  | [], ys, o, p, i => by simp [runG_nil]
  | x :: xs, ys, o, p, i => by
    rw [List.cons_append, runG_cons, runG_cons]
    by_cases h1 : p.any (fun q => decide (x.num ≠ q + 1)) = true
    · rw [if_pos h1, if_pos h1, if_pos (show (21 : Int) ≠ 0 by decide)]
    · rw [if_neg h1, if_neg h1]
      by_cases h2 : stC o x ≠ 0
      · rw [if_pos h2, if_pos h2, if_pos h2]
      · rw [if_neg h2, if_neg h2, runG_split xs ys, List.length_cons, show i + (xs.length + 1) = i + 1 + xs.length by omega]
        have : (match xs.getLast? with | some x => some x.num | none => some x.num) = (match (x :: xs).getLast? with | some x => some x.num | none => p) := by
          rw [List.getLast?_cons]
          cases xs.getLast? <;> rfl
        rw [this]

theorem runG_prev (o : List Rw) (q : Int) (i : Nat) (ys : List Ent) (h : ∀ y, ys.head? = some y → y.num = q + 1) : runG o (some q) i ys = runG o none i ys := by
  cases ys with
  | nil => rfl
  | cons y ys =>
    have hy := h y rfl
    rw [runG_cons, runG_cons, if_neg (show ¬ (some q).any (fun q => decide (y.num ≠ q + 1)) = true by simp [hy]), if_neg (show ¬ (none : Option Int).any (fun q => decide (y.num ≠ q + 1)) = true by simp)]

theorem entsF_add (g : Nat → Ent) : ∀ (k r o : Nat), entsF g o (k + r) = entsF g o k ++ entsF g (o + k) r
  | 0, r, o => by simp [entsF]
  | k + 1, r, o => by
    rw [show k + 1 + r = (k + r) + 1 by omega, entsF, entsF_add g k r, entsF, List.cons_append, show o + 1 + k = o + (k + 1) by omega]

theorem entsF_last (g : Nat → Ent) : ∀ (k o : Nat), (entsF g o (k + 1)).getLast? = some (g (o + k))
  | 0, o => rfl
  | k + 1, o => by
    rw [entsF, List.getLast?_cons, entsF_last g k (o + 1)]
    simp [show o + 1 + k = o + (k + 1) by omega]

theorem runG_idx : ∀ (xs : List Ent) (o : List Rw) (p : Option Int) (i : Nat), (runG o p i xs).2.1 ≤ i + xs.length
  | [], _, _, _ => Nat.zero_le _
  | x :: xs, o, p, i => by
    rw [runG_cons]
    by_cases h1 : p.any (fun q => decide (x.num ≠ q + 1)) = true
    · rw [if_pos h1]; exact Nat.le_add_right _ _
    · rw [if_neg h1]
      by_cases h2 : stC o x ≠ 0
      · rw [if_pos h2]; exact Nat.le_add_right _ _
      · rw [if_neg h2]
        have := runG_idx xs (stR o x) (some x.num) (i + 1)
        rw [List.length_cons]; omega
theorem runF_idx (l : List Rw) (es : List Ent) : (runF l es).2.1 ≤ es.length := by
  unfold runF
  split
  · exact Nat.zero_le _
  · split
    · exact Nat.zero_le _
    · have := runG_idx es l none 0
      omega

theorem runF_fine {l : List Rw} {es : List Ent} (h : (runF l es).2.2 = 0) : Fine (runF l es).1 := by
  unfold runF at h ⊢
  by_cases hc : checkL l = 0
  · rw [if_neg (by simpa using hc)] at h ⊢
    by_cases h5 : 500 < es.length
    · rw [if_pos h5] at h; cases h
    · rw [if_neg h5] at h ⊢
      exact runG_fine _ _ _ _ (fine_of hc) h
  · rw [if_pos hc] at h; exact absurd h hc
theorem runF_err {l : List Rw} {es : List Ent} (h : (runF l es).2.2 ≠ 0) : (runF l es).1 = [] := by
  unfold runF at h ⊢
  by_cases hc : checkL l = 0
  · rw [if_neg (by simpa using hc)] at h ⊢
    by_cases h5 : 500 < es.length
    · rw [if_pos h5]
    · rw [if_neg h5] at h ⊢
      exact runG_err _ _ _ _ h
  · rw [if_pos hc]

theorem parts (l : List Rw) (g : Nat → Ent) (hg : ∀ i, (g i).num = (i : Int) + 1) (k r : Nat) (h12 : k + r ≤ 14) :
    ((runF l (entsF g 0 k)).2.2 ≠ 0 → runF l (entsF g 0 (k + r)) = runF l (entsF g 0 k) ∧ (runF l (entsF g 0 k)).1 = []) ∧
    ((runF l (entsF g 0 k)).2.2 = 0 → runF l (entsF g 0 (k + r)) = ((runF (runF l (entsF g 0 k)).1 (entsF g k r)).1,
      (if (runF (runF l (entsF g 0 k)).1 (entsF g k r)).2.2 ≠ 0 then (runF (runF l (entsF g 0 k)).1 (entsF g k r)).2.1 + k else (runF (runF l (entsF g 0 k)).1 (entsF g k r)).2.1), (runF (runF l (entsF g 0 k)).1 (entsF g k r)).2.2)) := by
  by_cases hc : checkL l = 0
  · have e : ∀ m, m ≤ 14 → runF l (entsF g 0 m) = runG l none 0 (entsF g 0 m) := fun m hm => by
      unfold runF
      rw [if_neg (by simpa using hc), entsF_len, if_neg (by omega)]
    rw [e k (by omega), e (k + r) h12, entsF_add, runG_split, Nat.zero_add]
    constructor
    · intro h
      rw [if_pos h]
      exact ⟨rfl, runG_err _ _ _ _ h⟩
    · intro h
      rw [if_neg (by simpa using h)]
      have hf := runG_fine _ _ _ _ (fine_of hc) h
      have e2 : runF (runG l none 0 (entsF g 0 k)).1 (entsF g k r) = runG (runG l none 0 (entsF g 0 k)).1 none 0 (entsF g k r) := by
        unfold runF
        rw [if_neg (by simpa using fine_check hf), entsF_len, if_neg (by omega)]
      rw [e2, entsF_len, Nat.zero_add]
      have hsh := runG_shift k (entsF g k r) (runG l none 0 (entsF g 0 k)).1 none 0
      rw [Nat.zero_add] at hsh
      rw [← hsh]
      have e3 : runG (runG l none 0 (entsF g 0 k)).1 (match (entsF g 0 k).getLast? with | some x => some x.num | none => none) k (entsF g k r) = runG (runG l none 0 (entsF g 0 k)).1 none k (entsF g k r) := by
        cases k with
        | zero => rfl
        | succ k =>
          rw [entsF_last]
          refine runG_prev _ _ _ _ fun y hy => ?_
          cases r with
          | zero => cases hy
          | succ r =>
            have : g (k + 1) = y := Option.some.inj hy
            rw [← this, hg, hg]
            omega
      rw [e3]
  · have e : ∀ m, runF l (entsF g 0 m) = ([], 0, checkL l) := fun m => by
      unfold runF
      rw [if_pos hc]
    rw [e k, e (k + r)]
    exact ⟨fun _ => ⟨rfl, rfl⟩, fun h => absurd h hc⟩
end Go.Proofs.YtjmdebeffpdpcaaGreatDoor
