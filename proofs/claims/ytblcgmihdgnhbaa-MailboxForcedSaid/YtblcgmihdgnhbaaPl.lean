/- Plain laws of what All tells. -/
import Derived.Test.YtblcgmihdgnhbaaB1
import Derived.Test.YtblcgmihdgnhbaaA5
namespace Go.Proofs.Ytblcgmihdgnhbaa
open Go.RowKit

theorem tellM_congr {ls ls' : Nat → List Int} : ∀ m, (∀ i, i < m → ls (7 - i) = ls' (7 - i)) → tellM ls m = tellM ls' m
  | 0, _ => rfl
  | m + 1, h => by simp only [tellM]; rw [tellM_congr m (fun i hi => h i (by omega)), h m (by omega)]

theorem tellM_upd_len {ls : Nat → List Int} {p : Nat} (hp : p < 8) (l' : List Int) : ∀ m, m ≤ 8 → (tellM (upd ls p l') m).length + (if 8 ≤ m + p then (ls p).length else 0) = (tellM ls m).length + (if 8 ≤ m + p then l'.length else 0)
  | 0, _ => by
    rw [if_neg (by omega), if_neg (by omega)]
    rfl
  | m + 1, h => by
    have ih := tellM_upd_len (ls := ls) hp l' m (by omega)
    simp only [tellM, List.length_append, List.length_map]
    by_cases e : 7 - m = p
    · rw [e, upd_at]
      rw [if_neg (by omega), if_neg (by omega)] at ih
      rw [if_pos (by omega), if_pos (by omega)]
      omega
    · rw [upd_ne _ _ e]
      by_cases e2 : 8 ≤ m + p
      · rw [if_pos e2, if_pos e2] at ih
        rw [if_pos (by omega), if_pos (by omega)]
        omega
      · rw [if_neg e2, if_neg e2] at ih
        rw [if_neg (by omega), if_neg (by omega)]
        omega

theorem tell_lsOf_len (q : Nat → Nat) (hq : ∀ i, q i < 8) : ∀ j, (tellM (lsOf q j) 8).length = j
  | 0 => by rw [lsOf_zero]; rfl
  | j + 1 => by
    have ih := tell_lsOf_len q hq j
    have h := tellM_upd_len (ls := lsOf q j) (hq j) (lsOf q j (q j) ++ [(j : Int)]) 8 (by omega)
    rw [if_pos (by omega), if_pos (by omega), ← lsOf_succ] at h
    simp only [List.length_append, List.length_cons, List.length_nil] at h
    omega

theorem tellM_nil {ls : Nat → List Int} : ∀ m, m ≤ 8 → tellM ls m = [] → ∀ q, 8 ≤ m + q → q < 8 → ls q = []
  | 0, _, _, q, h1, h2 => by omega
  | m + 1, hm, h, q, h1, h2 => by
    simp only [tellM, List.append_eq_nil_iff, List.map_eq_nil_iff] at h
    by_cases e : q = 7 - m
    · rw [e]; exact h.2
    · exact tellM_nil m (by omega) h.1 q (by omega) h2

theorem tellM_cons {ls : Nat → List Int} {y : Fin 8 × Int} : ∀ m, m ≤ 8 → ∀ rest, tellM ls m = y :: rest → 8 ≤ m + y.1.val ∧ ∃ r, ls y.1.val = y.2 :: r ∧ (∀ q, y.1.val < q → q < 8 → ls q = []) ∧ tellM (upd ls y.1.val r) m = rest
  | 0, _, rest, h => by simp [tellM] at h
  | m + 1, hm, rest, h => by
    simp only [tellM] at h
    cases hx : tellM ls m with
    | nil =>
      rw [hx, List.nil_append] at h
      have hn := tellM_nil m (by omega) hx
      cases hl : ls (7 - m) with
      | nil => rw [hl] at h; simp at h
      | cons x r =>
        rw [hl, List.map_cons] at h
        injection h with h1 h2
        subst h1
        have hv : (Fin.ofNat 8 (7 - m)).val = 7 - m := Nat.mod_eq_of_lt (by omega)
        simp only [hv]
        refine ⟨by omega, r, hl, fun q h1 h2 => hn q (by omega) h2, ?_⟩
        simp only [tellM]
        rw [upd_at, tellM_congr (ls' := ls) m (fun i hi => upd_ne _ _ (by omega)), hx, List.nil_append]
        exact h2
    | cons y' rest' =>
      rw [hx, List.cons_append] at h
      injection h with h1 h2
      subst h1
      obtain ⟨a, r, b, c, d⟩ := tellM_cons m (by omega) rest' hx
      refine ⟨by omega, r, b, c, ?_⟩
      simp only [tellM]
      rw [d, upd_ne _ _ (by omega)]
      exact h2

/-- a comes before b. -/
def Bef (a b : Fin 8 × Int) : Prop := b.1.val < a.1.val ∨ (a.1.val = b.1.val ∧ a.2 < b.2)

theorem lsOf_sorted (q : Nat → Nat) (j p : Nat) : (lsOf q j p).Pairwise (· < ·) := by
  unfold lsOf
  rw [List.pairwise_map]
  exact (List.pairwise_lt_range.filter _).imp (fun h => by omega)

theorem tellM_mem {ls : Nat → List Int} {x : Fin 8 × Int} : ∀ m, m ≤ 8 → x ∈ tellM ls m → 8 ≤ m + x.1.val
  | 0, _, h => by simp [tellM] at h
  | m + 1, hm, h => by
    simp only [tellM, List.mem_append, List.mem_map] at h
    rcases h with h | ⟨v, _, rfl⟩
    · have := tellM_mem m (by omega) h; omega
    · have hv : (Fin.ofNat 8 (7 - m)).val = 7 - m := Nat.mod_eq_of_lt (by omega)
      simp only [hv]; omega

theorem tellM_sorted {ls : Nat → List Int} (hs : ∀ p, (ls p).Pairwise (· < ·)) : ∀ m, m ≤ 8 → (tellM ls m).Pairwise Bef
  | 0, _ => by simp [tellM]
  | m + 1, hm => by
    simp only [tellM]
    have hv : (Fin.ofNat 8 (7 - m)).val = 7 - m := Nat.mod_eq_of_lt (by omega)
    refine List.pairwise_append.2 ⟨tellM_sorted hs m (by omega), ?_, fun a ha b hb => ?_⟩
    · rw [List.pairwise_map]
      exact (hs (7 - m)).imp (fun h => .inr ⟨rfl, h⟩)
    · have := tellM_mem m (by omega) ha
      obtain ⟨v, _, rfl⟩ := List.mem_map.1 hb
      left
      simp only [hv]; omega

theorem tell_step {ls : Nat → List Int} {T : List (Fin 8 × Int)} {k : Nat} (h : tellM ls 8 = T.drop k) (hk : k < T.length) :
    ∃ r, ls (T[k]).1.val = (T[k]).2 :: r ∧ (∀ q, (T[k]).1.val < q → q < 8 → ls q = []) ∧ tellM (upd ls (T[k]).1.val r) 8 = T.drop (k + 1) := by
  rw [List.drop_eq_getElem_cons hk] at h
  obtain ⟨_, r, a, b, c⟩ := tellM_cons 8 (by omega) _ h
  exact ⟨r, a, b, c⟩
end Go.Proofs.Ytblcgmihdgnhbaa
