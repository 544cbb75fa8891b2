/- Plain laws: an entry, its text, and that the text says what it was. -/
import Derived.Lib.ItoaNum
import Derived.Lib.ItoaMem
import Derived.Lib.Atoi
import Derived.Lib.IndexLaws
import Derived.Test.YtjmdebeffpdpcaaGreatDoorMem
namespace Go.Proofs.YtjmdebeffpdpcaaGreatDoor
open Go.Lib

abbrev L8 := List UInt8

/-- A decimal digit. -/
def isDg (b : UInt8) : Bool := 48 ≤ b.toNat && b.toNat ≤ 57

theorem ofNat_toNat {i : Nat} (h : i < 10) : (UInt8.ofNat (48 + i)).toNat = 48 + i := by
  rw [UInt8.toNat_ofNat']; omega

theorem isDg_ofNat {i : Nat} (h : i < 10) : isDg (UInt8.ofNat (48 + i)) = true := by
  unfold isDg; rw [ofNat_toNat h]; simp; omega

theorem digitVal_ofNat {i : Nat} (h : i < 10) : digitVal (UInt8.ofNat (48 + i)) = some i := by
  unfold digitVal; rw [ofNat_toNat h, if_pos (by omega)]; congr 1; omega

theorem decDigits_big {u : Nat} (h : ¬ u < 10) : decDigits u = decDigits (u / 10) ++ [UInt8.ofNat (48 + u % 10)] := by
  rw [decDigits, dif_neg h]

theorem decDigits_dg (u : Nat) : ∀ b ∈ decDigits u, isDg b = true := by
  induction u using Nat.strongRecOn with
  | _ u ih =>
    by_cases h : u < 10
    · rw [decDigits_one h]; intro b hb; rw [List.mem_singleton.1 hb]; exact isDg_ofNat h
    · rw [decDigits_big h]; intro b hb
      rcases List.mem_append.1 hb with hb | hb
      · exact ih (u / 10) (by omega) b hb
      · rw [List.mem_singleton.1 hb]; exact isDg_ofNat (Nat.mod_lt u (by decide : 0 < 10))

theorem decDigits_ne (u : Nat) : decDigits u ≠ [] := by
  intro h
  have := decDigits_length u
  rw [h] at this
  have := nDigits_pos u
  simp at *
  omega

theorem decFrom_append : ∀ (a b : L8) (acc n : Nat), decFrom acc a = some n → decFrom acc (a ++ b) = decFrom n b
  | [], _, acc, n, h => by simp only [decFrom, Option.some.injEq] at h; subst h; rfl
  | c :: a, b, acc, n, h => by
    simp only [decFrom, List.cons_append] at h ⊢
    cases hc : digitVal c with
    | none => rw [hc] at h; cases h
    | some d => rw [hc] at h; exact decFrom_append a b _ n h

theorem decFrom_decDigits (u : Nat) : decFrom 0 (decDigits u) = some u := by
  induction u using Nat.strongRecOn with
  | _ u ih =>
    by_cases h : u < 10
    · rw [decDigits_one h]; simp only [decFrom, digitVal_ofNat h, Nat.zero_mul, Nat.zero_add]
    · rw [decDigits_big h, decFrom_append _ _ _ _ (ih (u / 10) (by omega))]
      simp only [decFrom, digitVal_ofNat (Nat.mod_lt u (by decide : 0 < 10))]
      congr 1; omega

theorem decDigits_inj {m n : Nat} (h : decDigits m = decDigits n) : m = n := by
  have h1 := decFrom_decDigits m
  rw [h, decFrom_decDigits] at h1
  exact (Option.some.inj h1).symm

theorem decNat_decDigits (u : Nat) : decNat (decDigits u) = some u := by
  unfold decNat
  rw [if_neg (by have := decDigits_ne u; simpa using this), decFrom_decDigits]

theorem atoi_decDigits (u : Nat) : atoi (decDigits u) = some (u : Int) := by
  cases hd : decDigits u with
  | nil => exact absurd hd (decDigits_ne u)
  | cons b r =>
    have hb := decDigits_dg u b (by rw [hd]; simp)
    have h45 : (b == 45) = false := by
      rw [beq_eq_false_iff_ne]; rintro rfl; simp [isDg] at hb
    have h43 : (b == 43) = false := by
      rw [beq_eq_false_iff_ne]; rintro rfl; simp [isDg] at hb
    simp only [atoi, h45, h43]
    rw [← hd, decNat_decDigits]
    rfl

/-- Two texts that are split at the first byte without a property. -/
theorem split_unique {P : UInt8 → Prop} {c c' : UInt8} : ∀ {a a' r r' : L8}, (∀ b ∈ a, P b) → (∀ b ∈ a', P b) → ¬ P c → ¬ P c' → a ++ c :: r = a' ++ c' :: r' → a = a' ∧ c = c' ∧ r = r'
  | [], [], r, r', _, _, _, _, h => by simpa using h
  | [], b :: a', r, r', _, h2, h3, _, h => by
    simp only [List.nil_append, List.cons_append, List.cons.injEq] at h
    exact absurd (h.1 ▸ h2 b (by simp)) h3
  | b :: a, [], r, r', h1, _, _, h4, h => by
    simp only [List.nil_append, List.cons_append, List.cons.injEq] at h
    exact absurd (h.1 ▸ h1 b (by simp)) h4
  | b :: a, b' :: a', r, r', h1, h2, h3, h4, h => by
    simp only [List.cons_append, List.cons.injEq] at h
    obtain ⟨e1, e2, e3⟩ := split_unique (fun x hx => h1 x (by simp [hx])) (fun x hx => h2 x (by simp [hx])) h3 h4 h.2
    exact ⟨by rw [h.1, e1], e2, e3⟩

theorem indexByte_at {c : UInt8} : ∀ (a r : L8), (∀ b ∈ a, b ≠ c) → indexByte (a ++ c :: r) c = (a.length : Int)
  | [], r, _ => by simp [indexByte]
  | b :: a, r, h => by
    have hb : (b == c) = false := beq_eq_false_iff_ne.2 (h b (by simp))
    have ih := indexByte_at a r (fun x hx => h x (by simp [hx]))
    simp only [List.cons_append, indexByte, hb, ih]
    have : ((a.length : Int) == -1) = false := by rw [beq_eq_false_iff_ne]; omega
    rw [this]
    simp

theorem indexByte_neg {c : UInt8} : ∀ {l : L8}, indexByte l c < 0 → ∀ b ∈ l, b ≠ c
  | l, h => by
    intro b hb e
    subst e
    have h1 := indexByte_ge l b
    have h2 : indexByte l b = -1 := by omega
    obtain ⟨k, hk, e⟩ := List.getElem_of_mem hb
    exact indexByte_none h2 k (by rw [List.getElem?_eq_getElem hk, e])

/-- What an index that is found says. -/
theorem indexByte_split {c : UInt8} {l : L8} {o : Nat} (h : indexByte l c = (o : Int)) : l = l.take o ++ c :: l.drop (o + 1) ∧ (∀ b ∈ l.take o, b ≠ c) ∧ o < l.length := by
  obtain ⟨h1, h2⟩ := indexByte_some h
  have hlt : o < l.length := (List.getElem?_eq_some_iff.1 h1).1
  refine ⟨?_, fun b hb e => ?_, hlt⟩
  · have h3 : l[o] = c := by rw [List.getElem?_eq_getElem hlt] at h1; exact Option.some.inj h1
    conv => lhs; rw [← List.take_append_drop o l, List.drop_eq_getElem_cons hlt, h3]
  · subst e
    obtain ⟨k, hk, e⟩ := List.getElem_of_mem hb
    have hk2 : k < o := by simp at hk; omega
    refine h2 k hk2 ?_
    rw [List.getElem_take] at e
    rw [List.getElem?_eq_getElem (by omega), e]

/-- A number, and what ends it: what 'number' reads. -/
def IsNum (l : L8) (c : UInt8) (n : Nat) (r : L8) : Prop := l = decDigits n ++ c :: r ∧ (decDigits n).length ≤ 6

theorem nDigits_le6 {n : Nat} (h : n < 1000000) : (decDigits n).length ≤ 6 := by
  rw [decDigits_length]
  rcases Nat.lt_or_ge n 10 with h1 | h1
  · rw [nDigits_small h1]; omega
  rw [nDigits_big (by omega)]
  rcases Nat.lt_or_ge n 100 with h2 | h2
  · rw [nDigits_small (by omega)]; omega
  rw [nDigits_big (by omega)]
  rcases Nat.lt_or_ge n 1000 with h3 | h3
  · rw [nDigits_small (by omega)]; omega
  rw [nDigits_big (by omega)]
  rcases Nat.lt_or_ge n 10000 with h4 | h4
  · rw [nDigits_small (by omega)]; omega
  rw [nDigits_big (by omega)]
  rcases Nat.lt_or_ge n 100000 with h5 | h5
  · rw [nDigits_small (by omega)]; omega
  rw [nDigits_big (by omega), nDigits_small (by omega)]; omega

theorem lt_of_nDigits6 {n : Nat} (h : (decDigits n).length ≤ 6) : n < 1000000 := by
  rw [decDigits_length] at h
  have h1 := lt_pow_nDigits n
  have h2 : 10 ^ nDigits n ≤ 10 ^ 6 := Nat.pow_le_pow_right (by decide) h
  omega
end Go.Proofs.YtjmdebeffpdpcaaGreatDoor

namespace Go.Proofs.YtjmdebeffpdpcaaGreatDoor
open Go.Lib

abbrev bl (s : ByteArray) : L8 := s.data.toList

structure Ent where
  num : Int
  time : Int
  kind : ByteArray
  text : ByteArray

def lower (b : UInt8) : Bool := 97 ≤ b.toNat && b.toNat ≤ 122

/-- A sound entry. -/
structure Ok (e : Ent) : Prop where
  n1 : 1 ≤ e.num
  n2 : e.num ≤ 500
  t1 : 0 ≤ e.time
  t2 : e.time ≤ 200000
  x : (bl e.text).length ≤ 120
  k : (bl e.kind).length ≤ 8
  k0 : bl e.kind ≠ []
  kl : ∀ b ∈ bl e.kind, lower b = true

def sumS (p : Nat × Nat) (c : UInt8) : Nat × Nat := ((p.1 + c.toNat) % 251, (p.2 + (p.1 + c.toNat) % 251) % 241)
def sumL (l : L8) : Nat := 256 * (l.foldl sumS (1, 0)).2 + (l.foldl sumS (1, 0)).1

theorem sumS_bd (l : L8) : (l.foldl sumS (1, 0)).1 ≤ 250 ∧ (l.foldl sumS (1, 0)).2 ≤ 240 := by
  suffices h : ∀ (l : L8) (p : Nat × Nat), p.1 ≤ 250 ∧ p.2 ≤ 240 → (l.foldl sumS p).1 ≤ 250 ∧ (l.foldl sumS p).2 ≤ 240 from h l (1, 0) ⟨by decide, by decide⟩
  intro l
  induction l with
  | nil => intro p h; exact h
  | cons b l ih =>
    intro p h
    rw [List.foldl_cons]
    refine ih _ ⟨?_, ?_⟩
    · have := Nat.mod_lt (p.1 + b.toNat) (by decide : 0 < 251)
      simp only [sumS]; omega
    · have := Nat.mod_lt (p.2 + (p.1 + b.toNat) % 251) (by decide : 0 < 241)
      simp only [sumS]; omega

theorem sumL_bd (l : L8) : sumL l < 100000 := by
  have := sumS_bd l
  unfold sumL; omega

/-- The part of an entry's text that is summed. -/
def preL (e : Ent) : L8 := decDigits e.num.toNat ++ 32 :: (decDigits e.time.toNat ++ 32 :: (bl e.kind ++ 32 :: (decDigits (bl e.text).length ++ 58 :: bl e.text)))

/-- A text that has an entry's form; m: its sum, as it is told. -/
def full (e : Ent) (m : Nat) (r : L8) : L8 := decDigits e.num.toNat ++ 32 :: (decDigits e.time.toNat ++ 32 :: (bl e.kind ++ 32 :: (decDigits (bl e.text).length ++ 58 :: (bl e.text ++ 59 :: (decDigits m ++ 10 :: r)))))

theorem full_pre (e : Ent) (m : Nat) (r : L8) : full e m r = preL e ++ 59 :: (decDigits m ++ 10 :: r) := by
  simp [full, preL]

theorem full_append (e : Ent) (m : Nat) (r s : L8) : full e m r ++ s = full e m (r ++ s) := by
  simp [full]

/-- The text of an entry. -/
def encL (e : Ent) : L8 := full e (sumL (preL e)) []

theorem bl_inj {a b : ByteArray} (h : bl a = bl b) : a = b := by
  cases a; cases b
  exact congrArg ByteArray.mk (Array.toList_inj.1 h)

theorem full_inj {e e' : Ent} {m m' : Nat} {r r' : L8} (h : Ok e) (h' : Ok e') (hf : full e m r = full e' m' r') : e = e' ∧ m = m' ∧ r = r' := by
  have nd : ∀ c : UInt8, c = 32 ∨ c = 58 ∨ c = 10 → ¬ isDg c = true := by
    intro c hc
    rcases hc with rfl | rfl | rfl <;> decide
  unfold full at hf
  obtain ⟨a1, _, hf⟩ := split_unique (P := fun b => isDg b = true) (decDigits_dg _) (decDigits_dg _) (nd 32 (by simp)) (nd 32 (by simp)) hf
  obtain ⟨a2, _, hf⟩ := split_unique (P := fun b => isDg b = true) (decDigits_dg _) (decDigits_dg _) (nd 32 (by simp)) (nd 32 (by simp)) hf
  obtain ⟨a3, _, hf⟩ := split_unique (P := fun b => lower b = true) h.kl h'.kl (by decide) (by decide) hf
  obtain ⟨a4, _, hf⟩ := split_unique (P := fun b => isDg b = true) (decDigits_dg _) (decDigits_dg _) (nd 58 (by simp)) (nd 58 (by simp)) hf
  obtain ⟨a5, hf⟩ := List.append_inj hf (decDigits_inj a4)
  rw [List.cons.injEq] at hf
  obtain ⟨a6, _, hf⟩ := split_unique (P := fun b => isDg b = true) (decDigits_dg _) (decDigits_dg _) (nd 10 (by simp)) (nd 10 (by simp)) hf.2
  have b1 := decDigits_inj a1
  have b2 := decDigits_inj a2
  have c1 := h.n1; have c2 := h'.n1; have c3 := h.t1; have c4 := h'.t1
  refine ⟨?_, decDigits_inj a6, hf⟩
  cases e; cases e'
  simp only at *
  have d1 := bl_inj a3
  have d2 := bl_inj a5
  subst d1; subst d2
  congr 1 <;> omega

theorem encL_len {e : Ent} (h : Ok e) : 1 ≤ (encL e).length ∧ (encL e).length ≤ 160 := by
  have n1 := h.n1; have n2 := h.n2; have t1 := h.t1; have t2 := h.t2; have x := h.x; have k := h.k
  have k0 : 0 < (bl e.kind).length := by
    rcases Nat.eq_zero_or_pos (bl e.kind).length with h0 | h0
    · exact absurd (List.length_eq_zero_iff.1 h0) h.k0
    · exact h0
  have pos : ∀ u, 1 ≤ (decDigits u).length := fun u => by rw [decDigits_length]; exact nDigits_pos u
  have a1 := nDigits_le6 (n := e.num.toNat) (by omega)
  have a2 := nDigits_le6 (n := e.time.toNat) (by omega)
  have a3 := nDigits_le6 (n := (bl e.text).length) (by omega)
  have a4 := nDigits_le6 (n := sumL (preL e)) (by have := sumL_bd (preL e); omega)
  have p1 := pos e.num.toNat; have p2 := pos e.time.toNat; have p3 := pos (bl e.text).length; have p4 := pos (sumL (preL e))
  unfold encL full
  simp only [List.length_append, List.length_cons, List.length_nil]
  omega

/-- l begins with the text of a sound entry; m: the sum that it tells. -/
def Forms (l : L8) (e : Ent) (m : Nat) (r : L8) : Prop := Ok e ∧ m < 1000000 ∧ l = full e m r

/-- A proper beginning of an entry's text has no entry's form. -/
theorem forms_prefix {e : Ent} {l t : L8} (h : Ok e) (hl : l ++ t = encL e) (ht : t ≠ []) (e' : Ent) (m : Nat) (r : L8) : ¬ Forms l e' m r := by
  rintro ⟨h', _, hf⟩
  rw [hf, full_append] at hl
  obtain ⟨_, _, h3⟩ := full_inj h' h hl
  exact ht (List.append_eq_nil_iff.1 h3).2

theorem forms_uniq {l : L8} {e e' : Ent} {m m' : Nat} {r r' : L8} (h : Forms l e m r) (h' : Forms l e' m' r') : e = e' ∧ m = m' ∧ r = r' :=
  full_inj h.1 h'.1 (h.2.2.symm.trans h'.2.2)

theorem forms_enc {e : Ent} (h : Ok e) (r : L8) : Forms (encL e ++ r) e (sumL (preL e)) r := ⟨h, by have := sumL_bd (preL e); omega, by unfold encL; rw [full_append, List.nil_append]⟩

theorem forms_of_sum {l : L8} {e : Ent} {r : L8} (h : Forms l e (sumL (preL e)) r) : l = encL e ++ r := by
  rw [h.2.2]; unfold encL; rw [full_append, List.nil_append]
end Go.Proofs.YtjmdebeffpdpcaaGreatDoor
