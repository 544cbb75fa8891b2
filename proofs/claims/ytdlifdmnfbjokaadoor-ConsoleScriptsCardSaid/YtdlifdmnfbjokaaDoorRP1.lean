/- Plain laws: decimal numerals, and how a text is split at a byte. -/
import Derived.Lib.ItoaNum
import Derived.Lib.ItoaMem
import Derived.Lib.Atoi
import Derived.Lib.IndexLaws
import Derived.Test.YtdlifdmnfbjokaaDoorMem
namespace Go.Proofs.YtdlifdmnfbjokaaDoor
open Go.Lib

abbrev L8 := List UInt8

/-- A decimal digit. -/
def isDg (b : UInt8) : Bool := 48 ≤ b.toNat && b.toNat ≤ 57

theorem ofNat_toNat {i : Nat} (h : i < 10) : (UInt8.ofNat (48 + i)).toNat = 48 + i := by
  rw [UInt8.toNat_ofNat']; omega

theorem isDg_ofNat {i : Nat} (h : i < 10) : isDg (UInt8.ofNat (48 + i)) = true := by
  unfold isDg; rw [ofNat_toNat h]; simp; omega

theorem digitVal_ofNat {i : Nat} (h : i < 10) : digitVal (UInt8.ofNat (48 + i)) = some i := by
  unfold digitVal; rw [ofNat_toNat h, if_pos (by omega)]; congr 1; omega

theorem decDigits_big {u : Nat} (h : ¬ u < 10) : decDigits u = decDigits (u / 10) ++ [UInt8.ofNat (48 + u % 10)] := by
  rw [decDigits, dif_neg h]

theorem decDigits_dg (u : Nat) : ∀ b ∈ decDigits u, isDg b = true := by
  induction u using Nat.strongRecOn with
  | _ u ih =>
    by_cases h : u < 10
    · rw [decDigits_one h]; intro b hb; rw [List.mem_singleton.1 hb]; exact isDg_ofNat h
    · rw [decDigits_big h]; intro b hb
      rcases List.mem_append.1 hb with hb | hb
      · exact ih (u / 10) (by omega) b hb
      · rw [List.mem_singleton.1 hb]; exact isDg_ofNat (Nat.mod_lt u (by decide : 0 < 10))

theorem decDigits_ne (u : Nat) : decDigits u ≠ [] := by
  intro h
  have := decDigits_length u
  rw [h] at this
  have := nDigits_pos u
  simp at *
  omega

theorem decFrom_append : ∀ (a b : L8) (acc n : Nat), decFrom acc a = some n → decFrom acc (a ++ b) = decFrom n b
  | [], _, acc, n, h => by simp only [decFrom, Option.some.injEq] at h; subst h; rfl
  | c :: a, b, acc, n, h => by
    simp only [decFrom, List.cons_append] at h ⊢
    cases hc : digitVal c with
    | none => rw [hc] at h; cases h
    | some d => rw [hc] at h; exact decFrom_append a b _ n h

theorem decFrom_decDigits (u : Nat) : decFrom 0 (decDigits u) = some u := by
  induction u using Nat.strongRecOn with
  | _ u ih =>
    by_cases h : u < 10
    · rw [decDigits_one h]; simp only [decFrom, digitVal_ofNat h, Nat.zero_mul, Nat.zero_add]
    · rw [decDigits_big h, decFrom_append _ _ _ _ (ih (u / 10) (by omega))]
      simp only [decFrom, digitVal_ofNat (Nat.mod_lt u (by decide : 0 < 10))]
      congr 1; omega

theorem decDigits_inj {m n : Nat} (h : decDigits m = decDigits n) : m = n := by
  have h1 := decFrom_decDigits m
  rw [h, decFrom_decDigits] at h1
  exact (Option.some.inj h1).symm

theorem decNat_decDigits (u : Nat) : decNat (decDigits u) = some u := by
  unfold decNat
  rw [if_neg (by have := decDigits_ne u; simpa using this), decFrom_decDigits]

theorem atoi_decDigits (u : Nat) : atoi (decDigits u) = some (u : Int) := by
  cases hd : decDigits u with
  | nil => exact absurd hd (decDigits_ne u)
  | cons b r =>
    have hb := decDigits_dg u b (by rw [hd]; simp)
    have h45 : (b == 45) = false := by
      rw [beq_eq_false_iff_ne]; rintro rfl; simp [isDg] at hb
    have h43 : (b == 43) = false := by
      rw [beq_eq_false_iff_ne]; rintro rfl; simp [isDg] at hb
    simp only [atoi, h45, h43]
    rw [← hd, decNat_decDigits]
    rfl

/-- Two texts that are split at the first byte without a property. -/
theorem split_unique {P : UInt8 → Prop} {c c' : UInt8} : ∀ {a a' r r' : L8}, (∀ b ∈ a, P b) → (∀ b ∈ a', P b) → ¬ P c → ¬ P c' → a ++ c :: r = a' ++ c' :: r' → a = a' ∧ c = c' ∧ r = r'
  | [], [], r, r', _, _, _, _, h => by simpa using h
  | [], b :: a', r, r', _, h2, h3, _, h => by
    simp only [List.nil_append, List.cons_append, List.cons.injEq] at h
    exact absurd (h.1 ▸ h2 b (by simp)) h3
  | b :: a, [], r, r', h1, _, _, h4, h => by
    simp only [List.nil_append, List.cons_append, List.cons.injEq] at h
    exact absurd (h.1 ▸ h1 b (by simp)) h4
  | b :: a, b' :: a', r, r', h1, h2, h3, h4, h => by
    simp only [List.cons_append, List.cons.injEq] at h
    obtain ⟨e1, e2, e3⟩ := split_unique (fun x hx => h1 x (by simp [hx])) (fun x hx => h2 x (by simp [hx])) h3 h4 h.2
    exact ⟨by rw [h.1, e1], e2, e3⟩

theorem indexByte_at {c : UInt8} : ∀ (a r : L8), (∀ b ∈ a, b ≠ c) → indexByte (a ++ c :: r) c = (a.length : Int)
  | [], r, _ => by simp [indexByte]
  | b :: a, r, h => by
    have hb : (b == c) = false := beq_eq_false_iff_ne.2 (h b (by simp))
    have ih := indexByte_at a r (fun x hx => h x (by simp [hx]))
    simp only [List.cons_append, indexByte, hb, ih]
    have : ((a.length : Int) == -1) = false := by rw [beq_eq_false_iff_ne]; omega
    rw [this]
    simp

theorem indexByte_neg {c : UInt8} : ∀ {l : L8}, indexByte l c < 0 → ∀ b ∈ l, b ≠ c
  | l, h => by
    intro b hb e
    subst e
    have h1 := indexByte_ge l b
    have h2 : indexByte l b = -1 := by omega
    obtain ⟨k, hk, e⟩ := List.getElem_of_mem hb
    exact indexByte_none h2 k (by rw [List.getElem?_eq_getElem hk, e])

/-- What an index that is found says. -/
theorem indexByte_split {c : UInt8} {l : L8} {o : Nat} (h : indexByte l c = (o : Int)) : l = l.take o ++ c :: l.drop (o + 1) ∧ (∀ b ∈ l.take o, b ≠ c) ∧ o < l.length := by
  obtain ⟨h1, h2⟩ := indexByte_some h
  have hlt : o < l.length := (List.getElem?_eq_some_iff.1 h1).1
  refine ⟨?_, fun b hb e => ?_, hlt⟩
  · have h3 : l[o] = c := by rw [List.getElem?_eq_getElem hlt] at h1; exact Option.some.inj h1
    conv => lhs; rw [← List.take_append_drop o l, List.drop_eq_getElem_cons hlt, h3]
  · subst e
    obtain ⟨k, hk, e⟩ := List.getElem_of_mem hb
    have hk2 : k < o := by simp at hk; omega
    refine h2 k hk2 ?_
    rw [List.getElem_take] at e
    rw [List.getElem?_eq_getElem (by omega), e]

/-- A number, and what ends it: what 'number' reads. -/
def IsNum (l : L8) (c : UInt8) (n : Nat) (r : L8) : Prop := l = decDigits n ++ c :: r ∧ (decDigits n).length ≤ 6

theorem nDigits_le6 {n : Nat} (h : n < 1000000) : (decDigits n).length ≤ 6 := by
  rw [decDigits_length]
  rcases Nat.lt_or_ge n 10 with h1 | h1
  · rw [nDigits_small h1]; omega
  rw [nDigits_big (by omega)]
  rcases Nat.lt_or_ge n 100 with h2 | h2
  · rw [nDigits_small (by omega)]; omega
  rw [nDigits_big (by omega)]
  rcases Nat.lt_or_ge n 1000 with h3 | h3
  · rw [nDigits_small (by omega)]; omega
  rw [nDigits_big (by omega)]
  rcases Nat.lt_or_ge n 10000 with h4 | h4
  · rw [nDigits_small (by omega)]; omega
  rw [nDigits_big (by omega)]
  rcases Nat.lt_or_ge n 100000 with h5 | h5
  · rw [nDigits_small (by omega)]; omega
  rw [nDigits_big (by omega), nDigits_small (by omega)]; omega

theorem lt_of_nDigits6 {n : Nat} (h : (decDigits n).length ≤ 6) : n < 1000000 := by
  rw [decDigits_length] at h
  have h1 := lt_pow_nDigits n
  have h2 : 10 ^ nDigits n ≤ 10 ^ 6 := Nat.pow_le_pow_right (by decide) h
  omega
end Go.Proofs.YtdlifdmnfbjokaaDoor
