/- Package approach: with one gap between all no order ends earlier than the sorted one (plain law). -/
import Derived.Test.YtmdfdjgeaemicaaA3
import Derived.Test.YtmdfdjgeaemicaaB1
import Derived.Lib.Slices
namespace Go.Proofs.Ytmdfdjgeaemicaa
open Go.RowKit

instance (x : It) : Decidable x.ok := by unfold It.ok; infer_instance
/-- A valid arrival. -/
abbrev Va := {x : It // x.ok}
instance : Inhabited Va := ⟨⟨⟨ByteArray.empty, 0, 0, 0⟩, by unfold It.ok; decide⟩⟩
def vaOf (its : Nat → It) (n : Nat) : List Va := (List.range n).map fun i => if h : (its i).ok then ⟨its i, h⟩ else default
theorem vaOf_len {its : Nat → It} {n : Nat} : (vaOf its n).length = n := by simp [vaOf]
theorem vaOf_get {its : Nat → It} {n : Nat} (h : ∀ i, i < n → (its i).ok) (i : Nat) (hi : i < n) : ((vaOf its n)[i]!).1 = its i := by
  rw [getElem!_pos _ i (by rw [vaOf_len]; exact hi)]
  simp [vaOf, h i hi]
def vi (l : List Va) (i : Nat) : It := (l[i]!).1
theorem vi_ok (l : List Va) (i : Nat) : (vi l i).ok := (l[i]!).2

theorem tT_up {g : Nat → Int} {its : Nat → It} {G : Int} {n : Nat} (hg : ∀ i, i < 16 → g i = G) (hw : ∀ i, i < n → (its i).ok) {i : Nat} : ∀ k, i ≤ k → k < n → (its i).rd + G * ((k - i : Nat) : Int) ≤ tT g its k := by
  intro k
  induction k with
  | zero =>
    intro h0 _
    obtain rfl : i = 0 := by omega
    have := tT_ready (g := g) (its := its) (i := 0); simp; exact this
  | succ k ih =>
    intro hk hkn
    by_cases e : i = k + 1
    · subst e; rw [Nat.sub_self]; have := tT_ready (g := g) (its := its) (i := k + 1); simp; exact this
    have h1 := ih (by omega) (by omega)
    have h2 := tT_gap (g := g) (its := its) (k := k) (i := k + 1) (by omega)
    have w1 := hw k (by omega)
    have w2 := hw (k + 1) hkn
    unfold It.ok at w1 w2
    rw [hg _ (by omega)] at h2
    rw [show k + 1 - i = (k - i) + 1 by omega]
    have : G * (((k - i) + 1 : Nat) : Int) = G * ((k - i : Nat) : Int) + G := by
      rw [Int.natCast_add, Int.mul_add]; simp
    omega
theorem tT_is {g : Nat → Int} {its : Nat → It} {G : Int} {n : Nat} (hg : ∀ i, i < 16 → g i = G) (hG : 0 ≤ G) (hw : ∀ i, i < n → (its i).ok) : ∀ k, k < n → ∃ i, i ≤ k ∧ tT g its k ≤ (its i).rd + G * ((k - i : Nat) : Int) := by
  intro k
  induction k using Nat.strongRecOn with
  | _ k ih =>
    intro hkn
    have h := nextT_at (g := g) (wk := fun k => (its k).wk) (od := id) (ts := tT g its) (r := (its k).rd) (w := (its k).wk) k
    rw [← tT_eq] at h
    rcases h with h | ⟨q, hq, h⟩
    · exact ⟨k, Nat.le_refl _, by rw [h, Nat.sub_self]; simp⟩
    · obtain ⟨i, hi, hle⟩ := ih q hq (by omega)
      have w1 := hw q (by omega)
      have w2 := hw k hkn
      unfold It.ok at w1 w2
      simp only [id] at h
      rw [hg _ (by omega)] at h
      refine ⟨i, by omega, ?_⟩
      have h3 : G * (((q - i) + 1 : Nat) : Int) ≤ G * ((k - i : Nat) : Int) := Int.mul_le_mul_of_nonneg_left (by omega) hG
      have : G * (((q - i) + 1 : Nat) : Int) = G * ((q - i : Nat) : Int) + G := by
        rw [Int.natCast_add, Int.mul_add]; simp
      omega

/-- Among the first i + 1 of one order there is one that is ready no earlier than the i-th of the sorted order. -/
theorem front {l s : List Va} (hp : s.Perm l) (hs : ∀ i j, i < j → j < s.length → (vi s i).rd ≤ (vi s j).rd) {i : Nat} (hi : i < s.length) : ∃ p, p ≤ i ∧ (vi s i).rd ≤ (vi l p).rd := by
  have hlen := hp.length_eq
  refine Classical.byContradiction fun hno => ?_
  have hno' : ∀ p, p ≤ i → (vi l p).rd < (vi s i).rd := fun p hp => Int.not_le.1 fun h => hno ⟨p, hp, h⟩
  let P : Va → Bool := fun x => decide (x.1.rd < (vi s i).rd)
  have hc : s.countP P = l.countP P := hp.countP_eq P
  have h1 : (l.take (i + 1)).countP P = i + 1 := by
    have : (l.take (i + 1)).length = i + 1 := by rw [List.length_take]; omega
    have h9 : (l.take (i + 1)).countP P = (l.take (i + 1)).length := by
     rw [List.countP_eq_length]
     intro x hx
     obtain ⟨k, hk, rfl⟩ := List.getElem_of_mem hx
     rw [List.getElem_take]
     have hk' : k < i + 1 := by rw [← this]; exact hk
     have := hno' k (by omega)
     unfold vi at this
     rw [getElem!_pos l k (by omega)] at this
     exact decide_eq_true this
    rw [h9, this]
  have h2 : (s.drop i).countP P = 0 := by
    rw [List.countP_eq_zero]
    intro x hx
    obtain ⟨k, hk, rfl⟩ := List.getElem_of_mem hx
    rw [List.getElem_drop]
    have hk' : i + k < s.length := by rw [List.length_drop] at hk; omega
    have : (vi s i).rd ≤ (vi s (i + k)).rd := by
      rcases Nat.eq_zero_or_pos k with rfl | h0
      · exact Int.le_refl _
      · exact hs i (i + k) (by omega) hk'
    have e : vi s (i + k) = (s[i + k]).1 := by unfold vi; rw [getElem!_pos s (i + k) hk']
    rw [e] at this
    show ¬ decide _ = true
    simp only [decide_eq_true_eq]
    omega
  have h3 : l.countP P = (l.take (i + 1)).countP P + (l.drop (i + 1)).countP P := by rw [← List.countP_append, List.take_append_drop]
  have h4 : s.countP P = (s.take i).countP P + (s.drop i).countP P := by rw [← List.countP_append, List.take_append_drop]
  have h5 : (s.take i).countP P ≤ (s.take i).length := List.countP_le_length
  rw [List.length_take] at h5
  omega

theorem maxOf_ge {zs : List Int} {x : Int} (h : x ∈ zs) : x ≤ Lib.maxOf zs := by
  have hf : ∀ (l : List Int) (a : Int), a ≤ l.foldl max a ∧ ∀ x ∈ l, x ≤ l.foldl max a := by
    intro l
    induction l with
    | nil => intro a; exact ⟨Int.le_refl _, fun x hx => by simp at hx⟩
    | cons b l ih =>
      intro a
      have := ih (max a b)
      refine ⟨by simp only [List.foldl_cons]; omega, fun x hx => ?_⟩
      simp only [List.foldl_cons]
      rcases List.mem_cons.1 hx with rfl | hx
      · omega
      · exact this.2 x hx
  exact (hf zs _).2 x h
theorem maxOf_mem {zs : List Int} (h : 0 < zs.length) : Lib.maxOf zs ∈ zs := by
  have hf : ∀ (l : List Int) (a : Int), l.foldl max a = a ∨ l.foldl max a ∈ l := by
    intro l
    induction l with
    | nil => intro a; exact .inl rfl
    | cons b l ih =>
      intro a
      simp only [List.foldl_cons]
      rcases ih (max a b) with h | h
      · rw [h]
        by_cases e : a ≤ b
        · right; rw [Int.max_eq_right e]; simp
        · left; omega
      · right; exact List.mem_cons_of_mem _ h
  unfold Lib.maxOf
  cases zs with
  | nil => simp at h
  | cons a l =>
    rcases hf (a :: l) ((a :: l).headD 0) with h | h
    · rw [h]; simp
    · exact h

/-- No order ends earlier than the sorted one. -/
theorem sorted_least {g : Nat → Int} {G : Int} (hg : ∀ i, i < 16 → g i = G) (hG : 0 ≤ G) {l s : List Va} {n : Nat} (hn : 0 < n) (hl : l.length = n) (hp : s.Perm l) (hs : ∀ i j, i < j → j < s.length → (vi s i).rd ≤ (vi s j).rd) :
    Lib.maxOf ((List.range n).map (tT g (vi s))) ≤ Lib.maxOf ((List.range n).map (tT g (vi l))) := by
  have hsl : s.length = n := by rw [hp.length_eq, hl]
  have hm := maxOf_mem (zs := (List.range n).map (tT g (vi s))) (by simp; exact hn)
  obtain ⟨k, hk, he⟩ := List.mem_map.1 hm
  have hkn := List.mem_range.1 hk
  rw [← he]
  obtain ⟨i, hi, h1⟩ := tT_is (its := vi s) (n := n) hg hG (fun _ _ => vi_ok _ _) k hkn
  obtain ⟨p, hpi, h2⟩ := front hp hs (i := i) (by omega)
  have h3 := tT_up (its := vi l) (n := n) (i := p) hg (fun _ _ => vi_ok _ _) (n - 1) (by omega) (by omega)
  have h4 : tT g (vi l) (n - 1) ≤ Lib.maxOf ((List.range n).map (tT g (vi l))) := maxOf_ge (List.mem_map.2 ⟨n - 1, List.mem_range.2 (by omega), rfl⟩)
  have h5 : G * ((k - i : Nat) : Int) ≤ G * ((n - 1 - p : Nat) : Int) := Int.mul_le_mul_of_nonneg_left (by omega) hG
  omega
theorem va_code {g : Nat → Int} {l : List Va} {n : Nat} (hn : n ≤ 32) (hg : ∀ i, i < 16 → gapOk (g i)) : checkCode n (vi l) g = 0 := checkCode_ok (by omega) hg (fun i _ => vi_ok l i)
end Go.Proofs.Ytmdfdjgeaemicaa
