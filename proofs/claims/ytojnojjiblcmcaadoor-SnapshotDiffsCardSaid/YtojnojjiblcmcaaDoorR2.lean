/- Plain law: a text with one changed byte of its lines is refused. -/
import Derived.Test.YtojnojjiblcmcaaDoorR1
namespace Go.Proofs.YtojnojjiblcmcaaDoor
open Go.RowKit
open Go.Lib hiding intOf

theorem mul_inj {x y : Nat} (hx : x < 18446744073709551616) (hy : y < 18446744073709551616) (h : x * 1099511628211 % 18446744073709551616 = y * 1099511628211 % 18446744073709551616) : x = y := by
  have key : ∀ z, z < 18446744073709551616 → (z * 1099511628211 % 18446744073709551616) * 14886173955864302971 % 18446744073709551616 = z := fun z hz => by
    rw [Nat.mod_mul_mod, Nat.mul_assoc, show 1099511628211 * 14886173955864302971 = 18446744073709551616 * 887285111055 + 1 by decide, Nat.mul_add, Nat.mul_one, Nat.mul_left_comm, Nat.mul_add_mod, Nat.mod_eq_of_lt hz]
  rw [← key x hx, ← key y hy, h]

theorem xor_lt {n : Nat} {c : UInt8} (h : n < 18446744073709551616) : n ^^^ c.toNat < 18446744073709551616 := by
  have hc : c.toNat < 2 ^ 64 := Nat.lt_trans (UInt8.toNat_lt c) (by decide)
  exact Nat.xor_lt_two_pow (n := 64) h hc
theorem mix_left {n m : Nat} {c : UInt8} (hn : n < 18446744073709551616) (hm : m < 18446744073709551616) (h : mixH n c = mixH m c) : n = m := by
  have h1 := mul_inj (xor_lt hn) (xor_lt hm) h
  have e : ∀ z : Nat, (z ^^^ c.toNat) ^^^ c.toNat = z := fun z => by rw [Nat.xor_assoc, Nat.xor_self, Nat.xor_zero]
  rw [← e n, ← e m, h1]
theorem mix_right {n : Nat} {c d : UInt8} (hn : n < 18446744073709551616) (h : mixH n c = mixH n d) : c = d := by
  have h1 := mul_inj (xor_lt hn) (xor_lt hn) h
  have e : ∀ z : Nat, n ^^^ (n ^^^ z) = z := fun z => by rw [← Nat.xor_assoc, Nat.xor_self, Nat.zero_xor]
  have : c.toNat = d.toNat := by rw [← e c.toNat, ← e d.toNat, h1]
  exact UInt8.toNat_inj.1 this

theorem fold_lt : ∀ (r : B8) (n : Nat), n < 18446744073709551616 → r.foldl mixH n < 18446744073709551616
  | [], _, h => h
  | c :: r, n, _ => fold_lt r _ (mixH_lt n c)
theorem fold_inj : ∀ (r : B8) (n m : Nat), n < 18446744073709551616 → m < 18446744073709551616 → r.foldl mixH n = r.foldl mixH m → n = m
  | [], _, _, _, _, h => h
  | c :: r, n, m, hn, hm, h => mix_left hn hm (fold_inj r _ _ (mixH_lt n c) (mixH_lt m c) h)
theorem fnv_one {a r : B8} {c d : UInt8} (h : fnvL (a ++ c :: r) = fnvL (a ++ d :: r)) : c = d := by
  unfold fnvL at h
  rw [List.foldl_append, List.foldl_append, List.foldl_cons, List.foldl_cons] at h
  have h0 : a.foldl mixH fnv0 < 18446744073709551616 := fold_lt a fnv0 (by decide)
  exact mix_right h0 (fold_inj r _ _ (mixH_lt _ c) (mixH_lt _ d) h)
theorem fnv_set {l : B8} {q : Nat} {b c : UInt8} (hb : l[q]? = some b) (h : fnvL l = fnvL (l.set q c)) : b = c := by
  obtain ⟨hq, he⟩ := List.getElem?_eq_some_iff.1 hb
  have e1 : l = l.take q ++ b :: l.drop (q + 1) := by
    rw [← he, List.getElem_cons_drop, List.take_append_drop]
  have e2 : l.set q c = l.take q ++ c :: l.drop (q + 1) := List.set_eq_take_append_cons_drop.trans (if_pos hq)
  rw [e2] at h
  rw [e1] at h
  rw [← e1] at h
  exact fnv_one (a := l.take q) (r := l.drop (q + 1)) (by rw [← h]; exact congrArg fnvL e1.symm)

def hb (u : Nat) : B8 := by_ (strOfNums (hexL u))
def dg (k : Nat) : UInt8 := UInt8.ofNat (hexd k).toNat
theorem dg_inj (i j : Nat) (hi : i < 16) (hj : j < 16) (h : dg i = dg j) : i = j := by
  have hall : ∀ a b : Fin 16, dg a.val = dg b.val → a.val = b.val := by decide
  exact hall ⟨i, hi⟩ ⟨j, hj⟩ h
theorem hb_lt {u : Nat} (h : u < 16) : hb u = [dg u] := by unfold hb; rw [hexL_lt h]; rfl
theorem hb_ge {u : Nat} (h : ¬ u < 16) : hb u = hb (u / 16) ++ [dg (u % 16)] := by
  unfold hb; rw [hexL_ge h]; simp [by_, strOfNums, dg]
theorem hb_pos (u : Nat) : 1 ≤ (hb u).length := by
  by_cases h : u < 16
  · rw [hb_lt h]; simp
  · rw [hb_ge h, List.length_append]; simp
theorem hb_inj : ∀ (n u v : Nat), u ≤ n → hb u = hb v → u = v := by
  intro n
  induction n with
  | zero =>
    intro u v hu h
    obtain rfl : u = 0 := by omega
    rw [hb_lt (by omega)] at h
    by_cases hv : v < 16
    · rw [hb_lt hv] at h
      exact dg_inj 0 v (by omega) hv (List.cons.inj h).1
    · rw [hb_ge hv] at h
      have e := congrArg List.length h
      simp only [List.length_append, List.length_cons, List.length_nil] at e
      have p := hb_pos (v / 16)
      omega
  | succ n ih =>
    intro u v hu h
    by_cases h16 : u < 16
    · rw [hb_lt h16] at h
      by_cases hv : v < 16
      · rw [hb_lt hv] at h
        exact dg_inj u v h16 hv (List.cons.inj h).1
      · rw [hb_ge hv] at h
        have e := congrArg List.length h
        simp only [List.length_append, List.length_cons, List.length_nil] at e
        have p := hb_pos (v / 16)
        omega
    · rw [hb_ge h16] at h
      by_cases hv : v < 16
      · rw [hb_lt hv] at h
        have e := congrArg List.length h
        simp only [List.length_append, List.length_cons, List.length_nil] at e
        have p := hb_pos (u / 16)
        omega
      · rw [hb_ge hv] at h
        obtain ⟨h1, h2⟩ := List.append_inj' h rfl
        have := ih (u / 16) (v / 16) (by omega) h1
        have := dg_inj (u % 16) (v % 16) (Nat.mod_lt _ (by omega)) (Nat.mod_lt _ (by omega)) (List.cons.inj h2).1
        omega

theorem split_nl : ∀ {a a' r r' : B8}, (∀ b ∈ a, b ≠ 10) → (∀ b ∈ a', b ≠ 10) → a ++ 10 :: r = a' ++ 10 :: r' → a = a' ∧ r = r'
  | [], [], _, _, _, _, h => ⟨rfl, (List.cons.inj h).2⟩
  | [], b :: a', _, _, _, h', h => absurd (List.cons.inj h).1.symm (h' b (by simp))
  | b :: a, [], _, _, h', _, h => absurd (List.cons.inj h).1 (h' b (by simp))
  | b :: a, c :: a', r, r', h1, h2, h => by
    obtain ⟨e1, e2⟩ := List.cons.inj h
    obtain ⟨e3, e4⟩ := split_nl (fun x hx => h1 x (by simp [hx])) (fun x hx => h2 x (by simp [hx])) e2
    exact ⟨by rw [e1, e3], e4⟩

theorem by_text2 (l : List Rw) : by_ (textB l) = hb (digN l) ++ 10 :: by_ (linesB l) := by
  unfold textB hb
  rw [by_app, by_app, show by_ bNl = [10] from rfl, List.append_assoc]
  rfl

/-- One byte of the lines is changed: the text is refused. -/
theorem spoilt {l : List Rw} (h : Fine l) {q : Nat} {b c : UInt8} (hb' : (by_ (linesB l))[q]? = some b) (hne : b ≠ c) {s : ByteArray} (hs : by_ s = hb (digN l) ++ 10 :: (by_ (linesB l)).set q c) : (readL s).2 ≠ 0 := by
  intro h0
  obtain ⟨h1, h2⟩ := read_ok h0
  rw [← h2, by_text2] at hs
  obtain ⟨e1, e2⟩ := split_nl (hexL_chars _) (hexL_chars _) hs
  have e3 := hb_inj _ _ _ (Nat.le_refl _) e1
  unfold digN at e3
  rw [if_pos h1, if_pos (fine_check h)] at e3
  have e4 : fnvL (by_ (linesB l)) = fnvL ((by_ (linesB l)).set q c) := by
    rw [← e2]; exact e3.symm
  exact hne (fnv_set hb' e4)
end Go.Proofs.YtojnojjiblcmcaaDoor
