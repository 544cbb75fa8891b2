/- Plain law: entries of other kinds change nothing. -/
import Derived.Test.YtbbklfjgojjlhaaDoorQ1
namespace Go.Proofs.YtbbklfjgojjlhaaDoor
open Go.RowKit
open Go.Lib hiding intOf

instance : Inhabited Ent := ⟨⟨0, 0, ByteArray.empty, ByteArray.empty⟩⟩
def keepE (x : Ent) : Bool := decide (x.kind = kSet) || decide (x.kind = kCut) || decide (x.kind = kGrow)
def reN (x : Ent) (j : Nat) : Ent := { x with num := (j : Int) + 1 }
def onlyG : Nat → List Ent → List Ent
  | _, [] => []
  | j, x :: r => if keepE x = true then reN x j :: onlyG (j + 1) r else onlyG j r

theorem onlyG_len : ∀ (xs : List Ent) (j : Nat), (onlyG j xs).length ≤ xs.length
  | [], _ => Nat.le_refl _
  | x :: r, j => by
    unfold onlyG
    split
    · have := onlyG_len r (j + 1)
      rw [List.length_cons, List.length_cons]; omega
    · have := onlyG_len r j
      rw [List.length_cons]; omega

theorem reN_chk {x : Ent} {j : Nat} (h : chk x = 0) (hj : j + 1 ≤ 500) : chk (reN x j) = 0 := by
  have h' := chk_ok.1 h
  exact chk_ok.2 ⟨by show 1 ≤ (j : Int) + 1; omega, by show (j : Int) + 1 ≤ 500; omega, h'.t1, h'.t2, h'.x, h'.k, h'.k0, h'.kl⟩

theorem st_reN {l : List Rw} {x : Ent} {j : Nat} (h : stC l x = 0) (hj : j + 1 ≤ 500) : stC l (reN x j) = 0 ∧ stR l (reN x j) = stR l x := by
  have hx := st_ok h
  have hy := reN_chk hx hj
  have e1 : stC l (reN x j) = stC l x := by
    unfold stC
    rw [hx, hy]
    rfl
  have e2 : stR l (reN x j) = stR l x := by
    unfold stR
    rw [hx, hy]
    rfl
  exact ⟨e1.trans h, e2⟩

theorem st_other {l : List Rw} {x : Ent} (h : stC l x = 0) (hk : keepE x = false) : stR l x = l := by
  have hx := st_ok h
  unfold keepE at hk
  simp only [Bool.or_eq_false_iff, decide_eq_false_iff_not] at hk
  have hc : checkL l = 0 := by
    unfold stC at h
    by_cases hc : checkL l = 0
    · exact hc
    · rw [if_pos (by simpa using hc)] at h; exact absurd h hc
  unfold stR
  rw [if_neg (by simpa using hc), if_neg (by simpa using hx), if_neg hk.1.1, if_neg hk.2, if_neg hk.1.2]

theorem only_run : ∀ (xs : List Ent) (o : List Rw) (p p' : Option Int) (i i' j : Nat), (runG o p i xs).2.2 = 0 → (p' = none ∨ p' = some (j : Int)) → j + xs.length ≤ 100 →
    (runG o p' i' (onlyG j xs)).2.2 = 0 ∧ (runG o p' i' (onlyG j xs)).1 = (runG o p i xs).1
  | [], o, p, p', i, i', j, _, _, _ => ⟨rfl, rfl⟩
  | x :: xs, o, p, p', i, i', j, h, hp, hj => by
    rw [List.length_cons] at hj
    rw [runG_cons] at h ⊢
    by_cases h1 : p.any (fun q => decide (x.num ≠ q + 1)) = true
    · rw [if_pos h1] at h; cases h
    · rw [if_neg h1] at h ⊢
      by_cases h2 : stC o x = 0
      · rw [if_neg (by simpa using h2)] at h ⊢
        unfold onlyG
        by_cases hk : keepE x = true
        · rw [if_pos hk]
          obtain ⟨a1, a2⟩ := st_reN (j := j) h2 (by omega)
          have ih := only_run xs (stR o x) (some x.num) (some (reN x j).num) (i + 1) (i' + 1) (j + 1) h (.inr (by show some ((j : Int) + 1) = some (((j + 1 : Nat)) : Int); simp)) (by omega)
          rw [runG_cons]
          have hn : ¬ p'.any (fun q => decide ((reN x j).num ≠ q + 1)) = true := by
            rcases hp with rfl | rfl
            · simp
            · simp [reN]
          rw [if_neg hn, if_neg (by simpa using a1), a2]
          exact ih
        · rw [if_neg hk]
          have e := st_other h2 (by simpa using hk)
          rw [e] at h ⊢
          exact only_run xs o (some x.num) p' (i + 1) i' j h hp (by omega)
      · rw [if_pos h2] at h; exact absurd h h2

theorem notes (l : List Rw) (xs : List Ent) (hl : xs.length ≤ 12) (h : (runF l xs).2.2 = 0) : (runF l (onlyG 0 xs)).2.2 = 0 ∧ (runF l (onlyG 0 xs)).1 = (runF l xs).1 := by
  unfold runF at h ⊢
  by_cases hc : checkL l = 0
  · have := onlyG_len xs 0
    rw [if_neg (by simpa using hc), if_neg (by omega)] at h ⊢
    rw [if_neg (by simpa using hc), if_neg (by omega)]
    exact only_run xs l none none 0 0 0 h (.inl rfl) (by omega)
  · rw [if_pos hc] at h; exact absurd h hc

theorem entsF_list : ∀ (l : List Ent), entsF (fun i => l[i]!) 0 l.length = l
  | [] => rfl
  | x :: r => by
    have hs := fun (k o : Nat) => show entsF (fun i => (x :: r)[i]!) (o + 1) k = entsF (fun i => r[i]!) o k from by
      induction k generalizing o with
      | zero => rfl
      | succ k ih => rw [entsF, entsF, ih (o + 1)]; rfl
    rw [List.length_cons, entsF, hs, entsF_list r]
    rfl
end Go.Proofs.YtbbklfjgojjlhaaDoor
