/- Plain laws: an entry, its text, and that the text says what it was. -/
import Derived.Test.YtdlifdmnfbjokaaDoorRP1
namespace Go.Proofs.YtdlifdmnfbjokaaDoor
open Go.Lib

abbrev bl (s : ByteArray) : L8 := s.data.toList

structure Ent where
  num : Int
  time : Int
  kind : ByteArray
  text : ByteArray

def lower (b : UInt8) : Bool := 97 ≤ b.toNat && b.toNat ≤ 122

/-- A sound entry. -/
structure Ok (e : Ent) : Prop where
  n1 : 1 ≤ e.num
  n2 : e.num ≤ 500
  t1 : 0 ≤ e.time
  t2 : e.time ≤ 200000
  x : (bl e.text).length ≤ 120
  k : (bl e.kind).length ≤ 8
  k0 : bl e.kind ≠ []
  kl : ∀ b ∈ bl e.kind, lower b = true

def sumS (p : Nat × Nat) (c : UInt8) : Nat × Nat := ((p.1 + c.toNat) % 251, (p.2 + (p.1 + c.toNat) % 251) % 241)
def sumL (l : L8) : Nat := 256 * (l.foldl sumS (1, 0)).2 + (l.foldl sumS (1, 0)).1

theorem sumS_bd (l : L8) : (l.foldl sumS (1, 0)).1 ≤ 250 ∧ (l.foldl sumS (1, 0)).2 ≤ 240 := by
  suffices h : ∀ (l : L8) (p : Nat × Nat), p.1 ≤ 250 ∧ p.2 ≤ 240 → (l.foldl sumS p).1 ≤ 250 ∧ (l.foldl sumS p).2 ≤ 240 from h l (1, 0) ⟨by decide, by decide⟩
  intro l
  induction l with
  | nil => intro p h; exact h
  | cons b l ih =>
    intro p h
    rw [List.foldl_cons]
    refine ih _ ⟨?_, ?_⟩
    · have := Nat.mod_lt (p.1 + b.toNat) (by decide : 0 < 251)
      simp only [sumS]; omega
    · have := Nat.mod_lt (p.2 + (p.1 + b.toNat) % 251) (by decide : 0 < 241)
      simp only [sumS]; omega

theorem sumL_bd (l : L8) : sumL l < 100000 := by
  have := sumS_bd l
  unfold sumL; omega

/-- The part of an entry's text that is summed. -/
def preL (e : Ent) : L8 := decDigits e.num.toNat ++ 32 :: (decDigits e.time.toNat ++ 32 :: (bl e.kind ++ 32 :: (decDigits (bl e.text).length ++ 58 :: bl e.text)))

/-- A text that has an entry's form; m: its sum, as it is told. -/
def full (e : Ent) (m : Nat) (r : L8) : L8 := decDigits e.num.toNat ++ 32 :: (decDigits e.time.toNat ++ 32 :: (bl e.kind ++ 32 :: (decDigits (bl e.text).length ++ 58 :: (bl e.text ++ 59 :: (decDigits m ++ 10 :: r)))))

theorem full_pre (e : Ent) (m : Nat) (r : L8) : full e m r = preL e ++ 59 :: (decDigits m ++ 10 :: r) := by
  simp [full, preL]

theorem full_append (e : Ent) (m : Nat) (r s : L8) : full e m r ++ s = full e m (r ++ s) := by
  simp [full]

/-- The text of an entry. -/
def encL (e : Ent) : L8 := full e (sumL (preL e)) []

theorem bl_inj {a b : ByteArray} (h : bl a = bl b) : a = b := by
  cases a; cases b
  exact congrArg ByteArray.mk (Array.toList_inj.1 h)

theorem full_inj {e e' : Ent} {m m' : Nat} {r r' : L8} (h : Ok e) (h' : Ok e') (hf : full e m r = full e' m' r') : e = e' ∧ m = m' ∧ r = r' := by
  have nd : ∀ c : UInt8, c = 32 ∨ c = 58 ∨ c = 10 → ¬ isDg c = true := by
    intro c hc
    rcases hc with rfl | rfl | rfl <;> decide
  unfold full at hf
  obtain ⟨a1, _, hf⟩ := split_unique (P := fun b => isDg b = true) (decDigits_dg _) (decDigits_dg _) (nd 32 (by simp)) (nd 32 (by simp)) hf
  obtain ⟨a2, _, hf⟩ := split_unique (P := fun b => isDg b = true) (decDigits_dg _) (decDigits_dg _) (nd 32 (by simp)) (nd 32 (by simp)) hf
  obtain ⟨a3, _, hf⟩ := split_unique (P := fun b => lower b = true) h.kl h'.kl (by decide) (by decide) hf
  obtain ⟨a4, _, hf⟩ := split_unique (P := fun b => isDg b = true) (decDigits_dg _) (decDigits_dg _) (nd 58 (by simp)) (nd 58 (by simp)) hf
  obtain ⟨a5, hf⟩ := List.append_inj hf (decDigits_inj a4)
  rw [List.cons.injEq] at hf
  obtain ⟨a6, _, hf⟩ := split_unique (P := fun b => isDg b = true) (decDigits_dg _) (decDigits_dg _) (nd 10 (by simp)) (nd 10 (by simp)) hf.2
  have b1 := decDigits_inj a1
  have b2 := decDigits_inj a2
  have c1 := h.n1; have c2 := h'.n1; have c3 := h.t1; have c4 := h'.t1
  refine ⟨?_, decDigits_inj a6, hf⟩
  cases e; cases e'
  simp only at *
  have d1 := bl_inj a3
  have d2 := bl_inj a5
  subst d1; subst d2
  congr 1 <;> omega

theorem encL_len {e : Ent} (h : Ok e) : 1 ≤ (encL e).length ∧ (encL e).length ≤ 160 := by
  have n1 := h.n1; have n2 := h.n2; have t1 := h.t1; have t2 := h.t2; have x := h.x; have k := h.k
  have k0 : 0 < (bl e.kind).length := by
    rcases Nat.eq_zero_or_pos (bl e.kind).length with h0 | h0
    · exact absurd (List.length_eq_zero_iff.1 h0) h.k0
    · exact h0
  have pos : ∀ u, 1 ≤ (decDigits u).length := fun u => by rw [decDigits_length]; exact nDigits_pos u
  have a1 := nDigits_le6 (n := e.num.toNat) (by omega)
  have a2 := nDigits_le6 (n := e.time.toNat) (by omega)
  have a3 := nDigits_le6 (n := (bl e.text).length) (by omega)
  have a4 := nDigits_le6 (n := sumL (preL e)) (by have := sumL_bd (preL e); omega)
  have p1 := pos e.num.toNat; have p2 := pos e.time.toNat; have p3 := pos (bl e.text).length; have p4 := pos (sumL (preL e))
  unfold encL full
  simp only [List.length_append, List.length_cons, List.length_nil]
  omega

/-- l begins with the text of a sound entry; m: the sum that it tells. -/
def Forms (l : L8) (e : Ent) (m : Nat) (r : L8) : Prop := Ok e ∧ m < 1000000 ∧ l = full e m r

/-- A proper beginning of an entry's text has no entry's form. -/
theorem forms_prefix {e : Ent} {l t : L8} (h : Ok e) (hl : l ++ t = encL e) (ht : t ≠ []) (e' : Ent) (m : Nat) (r : L8) : ¬ Forms l e' m r := by
  rintro ⟨h', _, hf⟩
  rw [hf, full_append] at hl
  obtain ⟨_, _, h3⟩ := full_inj h' h hl
  exact ht (List.append_eq_nil_iff.1 h3).2

theorem forms_uniq {l : L8} {e e' : Ent} {m m' : Nat} {r r' : L8} (h : Forms l e m r) (h' : Forms l e' m' r') : e = e' ∧ m = m' ∧ r = r' :=
  full_inj h.1 h'.1 (h.2.2.symm.trans h'.2.2)

theorem forms_enc {e : Ent} (h : Ok e) (r : L8) : Forms (encL e ++ r) e (sumL (preL e)) r := ⟨h, by have := sumL_bd (preL e); omega, by unfold encL; rw [full_append, List.nil_append]⟩

theorem forms_of_sum {l : L8} {e : Ent} {r : L8} (h : Forms l e (sumL (preL e)) r) : l = encL e ++ r := by
  rw [h.2.2]; unfold encL; rw [full_append, List.nil_append]
end Go.Proofs.YtdlifdmnfbjokaaDoor
