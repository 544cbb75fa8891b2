/- Plain laws: how many messages of each priority All tells, and the least urgent one. -/
import Derived.Test.YtblcgmihdgnhbaaPl
namespace Go.Proofs.Ytblcgmihdgnhbaa
open Go.RowKit

def cnt8 (l : List (Fin 8 × Int)) (p : Nat) : Int := ((l.filter (fun x => x.1.val == p)).length : Nat)

theorem cnt8_nil (p : Nat) : cnt8 [] p = 0 := rfl
theorem cnt8_snoc (l : List (Fin 8 × Int)) (x : Fin 8 × Int) (p : Nat) : cnt8 (l ++ [x]) p = if p = x.1.val then cnt8 l x.1.val + 1 else cnt8 l p := by
  unfold cnt8
  rw [List.filter_append]
  by_cases h : p = x.1.val
  · subst h; simp
  · have h' : ¬ x.1.val = p := fun e => h e.symm
    simp [h, h']
theorem cnt8_bd (l : List (Fin 8 × Int)) (p : Nat) : 0 ≤ cnt8 l p ∧ cnt8 l p ≤ l.length := by
  unfold cnt8
  have := List.length_filter_le (fun x : Fin 8 × Int => x.1.val == p) l
  omega

theorem cnt8_map (l : List Int) (c : Fin 8) (p : Nat) : cnt8 (l.map (fun v => (c, v))) p = if c.val = p then (l.length : Int) else 0 := by
  unfold cnt8
  rw [List.filter_map, List.length_map]
  by_cases h : c.val = p
  · rw [List.filter_eq_self.2 (by intro a _; simp [h]), if_pos h]
  · rw [List.filter_eq_nil_iff.2 (by intro a _; simp [h]), if_neg h]; rfl

theorem cnt8_append (a b : List (Fin 8 × Int)) (p : Nat) : cnt8 (a ++ b) p = cnt8 a p + cnt8 b p := by
  unfold cnt8; rw [List.filter_append, List.length_append]; omega

theorem cnt8_tellM {ls : Nat → List Int} {p : Nat} (hp : p < 8) : ∀ m, m ≤ 8 → cnt8 (tellM ls m) p = if 8 ≤ m + p then ((ls p).length : Int) else 0
  | 0, _ => by rw [if_neg (by omega)]; rfl
  | m + 1, h => by
    have hv : (Fin.ofNat 8 (7 - m)).val = 7 - m := Nat.mod_eq_of_lt (by omega)
    simp only [tellM]
    rw [cnt8_append, cnt8_tellM hp m (by omega), cnt8_map, hv]
    by_cases e : 7 - m = p
    · rw [if_pos e, if_neg (by omega), if_pos (by omega), e]; omega
    · rw [if_neg e]
      by_cases e2 : 8 ≤ m + p
      · rw [if_pos e2, if_pos (by omega)]; omega
      · rw [if_neg e2, if_neg (by omega)]; omega

theorem cnt8_tell {ls : Nat → List Int} {p : Nat} (hp : p < 8) : cnt8 (tellM ls 8) p = ((ls p).length : Int) := by
  rw [cnt8_tellM hp 8 (by omega), if_pos (by omega)]

def lowM (l : List (Fin 8 × Int)) : Int := l.foldl (fun a x => min a ((x.1.val : Nat) : Int)) 8
theorem lowM_snoc (l : List (Fin 8 × Int)) (x : Fin 8 × Int) : lowM (l ++ [x]) = min (lowM l) ((x.1.val : Nat) : Int) := by simp [lowM]

theorem low_map (c : Fin 8) : ∀ (l : List Int) (a : Int), (l.map (fun v => (c, v))).foldl (fun a x => min a ((x.1.val : Nat) : Int)) a = if l = [] then a else min a ((c.val : Nat) : Int)
  | [], a => by simp
  | v :: l, a => by
    rw [List.map_cons, List.foldl_cons, low_map c l]
    by_cases h : l = []
    · simp [h]
    · rw [if_neg h, if_neg (by simp)]
      show min (min a ((c.val : Nat) : Int)) ((c.val : Nat) : Int) = min a ((c.val : Nat) : Int)
      omega

theorem lowM_tellM {ls : Nat → List Int} : ∀ m, m ≤ 8 → ∃ L : Nat, lowM (tellM ls m) = (L : Int) ∧ (∀ q, 8 ≤ m + q → q < 8 → q < L → ls q = []) ∧ (L = 8 ∨ (8 ≤ m + L ∧ L < 8 ∧ ls L ≠ []))
  | 0, _ => ⟨8, rfl, fun q h1 h2 => by omega, .inl rfl⟩
  | m + 1, h => by
    obtain ⟨L, h1, h2, h3⟩ := lowM_tellM (ls := ls) m (by omega)
    have hv : (Fin.ofNat 8 (7 - m)).val = 7 - m := Nat.mod_eq_of_lt (by omega)
    have e : lowM (tellM ls (m + 1)) = if ls (7 - m) = [] then lowM (tellM ls m) else min (lowM (tellM ls m)) ((7 - m : Nat) : Int) := by
      simp only [tellM]
      unfold lowM
      rw [List.foldl_append, low_map, hv]
    by_cases hn : ls (7 - m) = []
    · refine ⟨L, by rw [e, if_pos hn]; exact h1, fun q a b c => ?_, ?_⟩
      · by_cases hq : q = 7 - m
        · rw [hq]; exact hn
        · exact h2 q (by omega) b c
      · rcases h3 with h3 | ⟨a, b, c⟩
        · exact .inl h3
        · exact .inr ⟨by omega, b, c⟩
    · refine ⟨7 - m, ?_, fun q a b c => by omega, .inr ⟨by omega, by omega, hn⟩⟩
      rw [e, if_neg hn, h1]
      rcases h3 with h3 | ⟨a, b, c⟩ <;> omega

theorem lowM_tell (ls : Nat → List Int) : ∃ L : Nat, lowM (tellM ls 8) = (L : Int) ∧ L ≤ 8 ∧ (∀ q, q < 8 → q < L → ls q = []) ∧ (L = 8 ∨ (L < 8 ∧ ls L ≠ [])) := by
  obtain ⟨L, h1, h2, h3⟩ := lowM_tellM (ls := ls) 8 (by omega)
  refine ⟨L, h1, by omega, fun q a b => h2 q (by omega) a b, ?_⟩
  rcases h3 with h3 | ⟨_, b, c⟩
  · exact .inl h3
  · exact .inr ⟨b, c⟩

theorem cnt_add {ls : Nat → List Int} {p q : Nat} (hp : p < 8) (hq : q < 8) (z : Int) : cnt8 (tellM (upd ls p (ls p ++ [z])) 8) q = if q = p then cnt8 (tellM ls 8) p + 1 else cnt8 (tellM ls 8) q := by
  rw [cnt8_tell hq, cnt8_tell hp, cnt8_tell hq]
  by_cases h : q = p
  · subst h; rw [upd_at, if_pos rfl]; simp
  · rw [upd_ne _ _ h, if_neg h]

theorem cnt_swap {ls : Nat → List Int} {p L q : Nat} {xs : List Int} {y : Int} (hp : p < 8) (hL : L < p) (hl : ls L = xs ++ [y]) (hq : q < 8) (z : Int) :
    cnt8 (tellM (upd (upd ls L xs) p (ls p ++ [z])) 8) q = if q = L then cnt8 (tellM ls 8) L - 1 else if q = p then cnt8 (tellM ls 8) p + 1 else cnt8 (tellM ls 8) q := by
  rw [cnt8_tell hq, cnt8_tell (by omega), cnt8_tell hp, cnt8_tell hq]
  by_cases h : q = L
  · subst h
    rw [upd_ne _ _ (by omega), upd_at, if_pos rfl, hl]; simp
  · rw [if_neg h]
    by_cases h2 : q = p
    · subst h2; rw [upd_at, if_pos rfl]; simp
    · rw [upd_ne _ _ h2, upd_ne _ _ h, if_neg h2]
end Go.Proofs.Ytblcgmihdgnhbaa
