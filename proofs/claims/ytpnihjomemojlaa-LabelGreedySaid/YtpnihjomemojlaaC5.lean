/- Package label: what Greedy finds (plain law). -/
import Derived.Test.YtpnihjomemojlaaC3
import Derived.Test.YtpnihjomemojlaaC1
import Derived.Test.YtpnihjomemojlaaB7
namespace Go.Proofs.Ytpnihjomemojlaa
open Go.RowKit

structure OkC (i : It) : Prop where
  x1 : -1000 ≤ i.x
  x2 : i.x ≤ 1000
  y1 : -1000 ≤ i.y
  y2 : i.y ≤ 1000
  w1 : 1 ≤ i.w
  w2 : i.w ≤ 40
  h1 : 1 ≤ i.h
  h2 : i.h ≤ 40
structure OkD (b : Bx) : Prop where
  x1 : -2000 ≤ b.x
  x2 : b.x ≤ 2000
  y1 : -2000 ≤ b.y
  y2 : b.y ≤ 2000
  w1 : 1 ≤ b.w
  w2 : b.w ≤ 40
  h1 : 1 ≤ b.h
  h2 : b.h ≤ 40
theorem okC_of {l : List It} (h : ckL l = 0) (hw : ∀ i ∈ l, -9223372036854775808 ≤ i.x ∧ -9223372036854775808 ≤ i.y) : ∀ i ∈ l, OkC i := fun i hi => by
  have hb : badB i = false := by
    cases hb : badB i with
    | false => rfl
    | true =>
      exfalso
      have : l.any badB = true := List.any_eq_true.2 ⟨i, hi, hb⟩
      unfold ckL at h
      rw [this] at h
      split at h <;> simp at h
  obtain ⟨w1, w2⟩ := hw i hi
  unfold badB at hb
  simp only [Bool.or_eq_false_iff, decide_eq_false_iff_not] at hb
  obtain ⟨⟨⟨⟨⟨⟨⟨t1, t2⟩, t3⟩, t4⟩, t5⟩, t6⟩, t7⟩, t8⟩ := hb
  have hx : i.x ≤ 1000 := by omega
  have hy : i.y ≤ 1000 := by omega
  rw [show wr64 (-i.x) = -i.x from IntWalk.i64_in _ (by omega)] at t1
  rw [show wr64 (-i.y) = -i.y from IntWalk.i64_in _ (by omega)] at t2
  exact ⟨by omega, hx, by omega, hy, by omega, by omega, by omega, by omega⟩

theorem boxS_okD {i : It} (h : OkC i) (k : Nat) : OkD (boxS i k) := by
  obtain ⟨a1, a2, a3, a4, a5, a6, a7, a8⟩ := h
  have e1 : (i.w).tdiv 2 = i.w / 2 := Int.tdiv_eq_ediv_of_nonneg (by omega)
  have e2 : (i.h).tdiv 2 = i.h / 2 := Int.tdiv_eq_ediv_of_nonneg (by omega)
  have d1 : 0 ≤ i.w / 2 ∧ i.w / 2 ≤ 20 := by omega
  have d2 : 0 ≤ i.h / 2 ∧ i.h / 2 ≤ 20 := by omega
  have r5 : wr64 (i.w.tdiv 2) = i.w / 2 := by rw [e1]; exact wr64_id (by omega) (by omega)
  have r6 : wr64 (i.h.tdiv 2) = i.h / 2 := by rw [e2]; exact wr64_id (by omega) (by omega)
  generalize i.w / 2 = p at *
  generalize i.h / 2 = q at *
  have r1 : wr64 (i.x + 1) = i.x + 1 := wr64_id (by omega) (by omega)
  have r2 : wr64 (i.x - i.w) = i.x - i.w := wr64_id (by omega) (by omega)
  have r3 : wr64 (i.y + 1) = i.y + 1 := wr64_id (by omega) (by omega)
  have r4 : wr64 (i.y - i.h) = i.y - i.h := wr64_id (by omega) (by omega)
  have r7 : wr64 (i.x - p) = i.x - p := wr64_id (by omega) (by omega)
  have r8 : wr64 (i.y - q) = i.y - q := wr64_id (by omega) (by omega)
  match k with
  | 0 | 1 | 2 | 3 | 4 | 5 | 6 => all_goals (simp only [boxS, r1, r2, r3, r4, r5, r6, r7, r8]; constructor <;> (show _ ≤ _; dsimp only; omega))
  | k + 7 => simp only [boxS, r4, r5, r7]; constructor <;> (show _ ≤ _; dsimp only; omega)

/-- A cell of a box, without wrapping. -/
theorem insB_iff {b : Bx} (h : OkD b) {x y : Int} : insB b x y = true ↔ (b.x ≤ x ∧ x < b.x + b.w) ∧ b.y ≤ y ∧ y < b.y + b.h := by
  obtain ⟨a1, a2, a3, a4, a5, a6, a7, a8⟩ := h
  unfold insB
  rw [wr64_id (n := b.x + b.w) (by omega) (by omega), wr64_id (n := b.y + b.h) (by omega) (by omega)]
  simp only [Bool.and_eq_true, decide_eq_true_eq]
  omega
theorem meetW_iff {a b : Bx} (ha : OkD a) (hb : OkD b) : meetW a b = true ↔ ∃ x y, insB a x y = true ∧ insB b x y = true := by
  have h1 := @insB_iff a ha
  have h2 := @insB_iff b hb
  obtain ⟨a1, a2, a3, a4, a5, a6, a7, a8⟩ := ha
  obtain ⟨b1, b2, b3, b4, b5, b6, b7, b8⟩ := hb
  unfold meetW
  rw [wr64_id (n := b.x + b.w) (by omega) (by omega), wr64_id (n := b.y + b.h) (by omega) (by omega), wr64_id (n := a.x + a.w) (by omega) (by omega), wr64_id (n := a.y + a.h) (by omega) (by omega)]
  simp only [Bool.and_eq_true, decide_eq_true_eq]
  constructor
  · rintro ⟨⟨⟨p1, p2⟩, p3⟩, p4⟩
    exact ⟨max a.x b.x, max a.y b.y, h1.2 (by omega), h2.2 (by omega)⟩
  · rintro ⟨x, y, p, q⟩
    have p := h1.1 p
    have q := h2.1 q
    omega
theorem cell1_okD {i : It} (h : OkC i) : OkD (cell1 i) := by
  obtain ⟨a1, a2, a3, a4, a5, a6, a7, a8⟩ := h
  constructor <;> (show _ ≤ _; simp only [cell1]; omega)
theorem meet_cell1 {b : Bx} {i : It} (hb : OkD b) (hi : OkC i) : meetW b (cell1 i) = insB b i.x i.y := by
  rw [Bool.eq_iff_iff, meetW_iff hb (cell1_okD hi)]
  constructor
  · rintro ⟨x, y, p, q⟩
    have q := (insB_iff (cell1_okD hi)).1 q
    simp only [cell1] at q
    rw [show i.x = x by omega, show i.y = y by omega]; exact p
  · intro p
    exact ⟨i.x, i.y, p, (insB_iff (cell1_okD hi)).2 (by simp only [cell1]; omega)⟩

def gsp (l : List It) (k : Nat) : Int := match spotF l (greedyG l k).2 l[k]! with | some s => (s : Int) | none => -1
theorem greedy_fst (l : List It) : ∀ j, (greedyG l j).1 = (List.range j).map (gsp l)
  | 0 => rfl
  | j + 1 => by
    rw [List.range_succ, List.map_append, List.map_singleton, ← greedy_fst l j]
    show (stepG l (greedyG l j) l[j]!).1 = _
    unfold stepG gsp
    cases spotF l (greedyG l j).2 l[j]! <;> rfl
theorem greedy_snd (l : List It) {c : Bx} : ∀ j, c ∈ (greedyG l j).2 ↔ ∃ k, k < j ∧ ∃ s, spotF l (greedyG l k).2 l[k]! = some s ∧ c = boxS l[k]! s
  | 0 => by simp [greedyG]
  | j + 1 => by
    have ih := greedy_snd l (c := c) j
    have hs : (greedyG l (j + 1)).2 = match spotF l (greedyG l j).2 l[j]! with | some s => (greedyG l j).2 ++ [boxS l[j]! s] | none => (greedyG l j).2 := by
      show (stepG l (greedyG l j) l[j]!).2 = _
      unfold stepG
      cases spotF l (greedyG l j).2 l[j]! <;> rfl
    rw [hs]
    constructor
    · intro h
      cases hq : spotF l (greedyG l j).2 l[j]! with
      | none =>
        rw [hq] at h
        obtain ⟨k, hk, r⟩ := ih.1 h
        exact ⟨k, by omega, r⟩
      | some s =>
        rw [hq] at h
        rcases List.mem_append.1 h with h | h
        · obtain ⟨k, hk, r⟩ := ih.1 h
          exact ⟨k, by omega, r⟩
        · exact ⟨j, by omega, s, hq, List.mem_singleton.1 h⟩
    · rintro ⟨k, hk, s, h1, h2⟩
      by_cases e : k = j
      · subst e
        rw [h1]
        exact List.mem_append.2 (.inr (by rw [h2]; simp))
      · have := ih.2 ⟨k, by omega, s, h1, h2⟩
        cases spotF l (greedyG l j).2 l[j]! with
        | none => exact this
        | some s => exact List.mem_append.2 (.inl this)
theorem spotF_iff {l : List It} {u : List Bx} {i : It} {k : Nat} (h : spotF l u i = some k) : k < 8 ∧ freeB l u (boxS i k) = true := by
  unfold spotF at h
  have h1 := List.find?_some h
  have h2 := List.mem_of_find?_eq_some h
  exact ⟨List.mem_range.1 h2, h1⟩
theorem spotF_le {l : List It} {u : List Bx} {i : It} {s : Nat} (hs : s < 8) (h : freeB l u (boxS i s) = true) : ∃ k, spotF l u i = some k ∧ k ≤ s := by
  cases hq : spotF l u i with
  | none =>
    unfold spotF at hq
    rw [List.find?_eq_none] at hq
    exact absurd h (hq s (List.mem_range.2 hs))
  | some k =>
    refine ⟨k, rfl, ?_⟩
    unfold spotF at hq
    rw [List.find?_range_eq_some] at hq
    rcases Nat.lt_or_ge s k with h' | h'
    · have := hq.2.2 s h'
      rw [h] at this
      cases this
    · exact h'
theorem freeB_iff {l : List It} {u : List Bx} {b : Bx} : freeB l u b = true ↔ (∀ x ∈ l, meetW b (cell1 x) = false) ∧ ∀ c ∈ u, meetW b c = false := by
  unfold freeB
  simp [Bool.and_eq_true]

/-- The labels at these positions cover neither points nor each other. -/
def Fit (l : List It) (sp : Nat → Int) : Prop :=
  ∀ i, i < l.length → 0 ≤ sp i → (∀ y ∈ l, insB (boxS l[i]! (sp i).toNat) y.x y.y = false) ∧ ∀ k, k < i → 0 ≤ sp k → ∀ x y, insB (boxS l[i]! (sp i).toNat) x y = true → insB (boxS l[k]! (sp k).toNat) x y = false
theorem gsp_some {l : List It} {k : Nat} (h : 0 ≤ gsp l k) : ∃ s, spotF l (greedyG l k).2 l[k]! = some s ∧ gsp l k = (s : Int) := by
  unfold gsp at h ⊢
  cases hq : spotF l (greedyG l k).2 l[k]! with
  | none => rw [hq] at h; exact absurd h (by decide)
  | some s => exact ⟨s, rfl, rfl⟩
theorem greedy_fit {l : List It} (hl : ∀ i ∈ l, OkC i) : Fit l (gsp l) := fun i hi h0 => by
  obtain ⟨s, h1, h2⟩ := gsp_some h0
  obtain ⟨h3, h4⟩ := spotF_iff h1
  have him : l[i]! ∈ l := by rw [getElem!_pos l i hi]; exact List.getElem_mem hi
  obtain ⟨f1, f2⟩ := freeB_iff.1 h4
  rw [h2, Int.toNat_natCast]
  have hb := boxS_okD (hl _ him) s
  refine ⟨fun y hy => by rw [← meet_cell1 hb (hl y hy)]; exact f1 y hy, fun k hk hk0 x y hxy => ?_⟩
  obtain ⟨s', k1, k2⟩ := gsp_some hk0
  have hkm : l[k]! ∈ l := by rw [getElem!_pos l k (by omega)]; exact List.getElem_mem _
  rw [k2, Int.toNat_natCast]
  have hc := boxS_okD (hl _ hkm) s'
  have := f2 _ ((greedy_snd l i).2 ⟨k, hk, s', k1, rfl⟩)
  cases hq : insB (boxS l[k]! s') x y with
  | false => rfl
  | true => rw [(meetW_iff hb hc).2 ⟨x, y, hxy, hq⟩] at this; cases this
/-- What fits at k, and covers no point, Greedy takes, or takes one before it. -/
theorem greedy_best {l : List It} (hl : ∀ i ∈ l, OkC i) {k s : Nat} (hk : k < l.length) (hs : s < 8) (hf : Fit (l.take (k + 1)) (fun i => if i = k then (s : Int) else gsp l i)) (ho : ∀ x ∈ l, insB (boxS l[k]! s) x.x x.y = false) :
    0 ≤ gsp l k ∧ gsp l k ≤ (s : Int) := by
  have hkm : l[k]! ∈ l := by rw [getElem!_pos l k hk]; exact List.getElem_mem hk
  have hb := boxS_okD (hl _ hkm) s
  have hg : ∀ i, i ≤ k → (l.take (k + 1))[i]! = l[i]! := fun i hi => by
    rw [getElem!_pos _ i (by rw [List.length_take]; omega), getElem!_pos l i (by omega), List.getElem_take]
  have hfree : freeB l (greedyG l k).2 (boxS l[k]! s) = true := by
    rw [freeB_iff]
    refine ⟨fun x hx => by rw [meet_cell1 hb (hl x hx)]; exact ho x hx, fun c hc => ?_⟩
    obtain ⟨j, hj, s', h1, rfl⟩ := (greedy_snd l k).1 hc
    have hjm : l[j]! ∈ l := by rw [getElem!_pos l j (by omega)]; exact List.getElem_mem _
    have hgj : gsp l j = (s' : Int) := by unfold gsp; rw [h1]
    obtain ⟨_, h2⟩ := hf k (by rw [List.length_take]; omega) (by simp)
    have h3 := h2 j hj (by simp only; rw [if_neg (by omega), hgj]; omega)
    simp only [if_true] at h3
    rw [if_neg (by omega), hgj, Int.toNat_natCast, Int.toNat_natCast, hg k (Nat.le_refl _), hg j (by omega)] at h3
    cases hq : meetW (boxS l[k]! s) (boxS l[j]! s') with
    | false => rfl
    | true =>
      obtain ⟨x, y, p, q⟩ := (meetW_iff hb (boxS_okD (hl _ hjm) s')).1 hq
      rw [h3 x y p] at q
      cases q
  obtain ⟨s0, h1, h2⟩ := spotF_le hs hfree
  have : gsp l k = (s0 : Int) := by unfold gsp; rw [h1]
  omega

theorem srchK_at {f : List Int → List Bx → Option (List Int)} {l : List It} {s : List Int} {u : List Bx} {k : Nat} {o : List Int} (hk : k < 8) (hfr : freeB l u (boxS l[s.length]! k) = true) (hlt : ∀ m, m < k → freeB l u (boxS l[s.length]! m) = false) (ho : f (s ++ [(k : Int)]) (u ++ [boxS l[s.length]! k]) = some o) :
    ∀ j, j ≤ k → srchK f l s u (8 - j) = some o := fun j hj => by
  induction hd : k - j generalizing j with
  | zero =>
    obtain rfl : j = k := by omega
    rw [srchK_next hk, if_pos hfr, ho]
  | succ d ih =>
    rw [srchK_next (by omega), if_neg (by rw [hlt j (by omega)]; decide)]
    exact ih (j + 1) (by omega) (by omega)
theorem srch_greedy {l : List It} (h : ∀ k, k < l.length → gsp l k ≠ -1) : ∀ f j, j + f = l.length → srch l f (greedyG l j).1 (greedyG l j).2 = some (greedyG l l.length).1
  | 0, j, hj => by
    obtain rfl : j = l.length := by omega
    rfl
  | f + 1, j, hj => by
    have hne := h j (by omega)
    have hlen := (greedyG_len l j).1
    cases hq : spotF l (greedyG l j).2 l[j]! with
    | none => exact absurd (by unfold gsp; rw [hq]) hne
    | some s =>
      obtain ⟨h1, h2⟩ := spotF_iff hq
      have hnext : greedyG l (j + 1) = ((greedyG l j).1 ++ [(s : Int)], (greedyG l j).2 ++ [boxS l[j]! s]) := by
        show stepG l (greedyG l j) l[j]! = _
        unfold stepG; rw [hq]
      have ih := srch_greedy h f (j + 1) (by omega)
      rw [hnext] at ih
      have hlt : ∀ m, m < s → freeB l (greedyG l j).2 (boxS l[j]! m) = false := fun m hm => by
        cases hb : freeB l (greedyG l j).2 (boxS l[j]! m) with
        | false => rfl
        | true =>
          obtain ⟨k, e1, e2⟩ := spotF_le (by omega) hb
          rw [hq] at e1
          have := Option.some.inj e1
          omega
      exact srchK_at (k := s) h1 (by rw [hlen]; exact h2) (by rw [hlen]; exact hlt) (by rw [hlen]; exact ih) 0 (Nat.zero_le _)
end Go.Proofs.Ytpnihjomemojlaa
