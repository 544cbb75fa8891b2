/- Vector and Lamport clocks over a run of events, plainly: sa: an event's site, rc: does it receive, sj: the event that it receives from. No conditions. -/
namespace Go.Proofs.Ytchpgknaaofapaa
namespace Clk

section
variable (sa sj : Nat → Nat) (rc : Nat → Bool)

/-- The vector that event i gets, of the sites' last vectors and the events' vectors. -/
def nv (i : Nat) (la V : Nat → Nat → Int) (s : Nat) : Int :=
  (if rc i = true then max (la (sa i) s) (V (sj i) s) else la (sa i) s) + (if s = sa i then 1 else 0)

def vst : Nat → (Nat → Nat → Int) × (Nat → Nat → Int)
  | 0 => (fun _ _ => 0, fun _ _ => 0)
  | i + 1 => (fun a s => if a = sa i then nv sa sj rc i (vst i).1 (vst i).2 s else (vst i).1 a s,
              fun j s => if j = i then nv sa sj rc i (vst i).1 (vst i).2 s else (vst i).2 j s)

def La (i : Nat) : Nat → Nat → Int := (vst sa sj rc i).1
def Vv (i : Nat) : Nat → Int := (vst sa sj rc (i + 1)).2 i

def nl (i : Nat) (la L : Nat → Int) : Int := (if rc i = true then max (la (sa i)) (L (sj i)) else la (sa i)) + 1
def lst : Nat → (Nat → Int) × (Nat → Int)
  | 0 => (fun _ => 0, fun _ => 0)
  | i + 1 => (fun a => if a = sa i then nl sa sj rc i (lst i).1 (lst i).2 else (lst i).1 a,
              fun j => if j = i then nl sa sj rc i (lst i).1 (lst i).2 else (lst i).2 j)
def LL (i : Nat) : Nat → Int := (lst sa sj rc i).1
def Lv (i : Nat) : Int := (lst sa sj rc (i + 1)).2 i

def cnt : Nat → Nat → Nat
  | 0, _ => 0
  | i + 1, s => cnt i s + if s = sa i then 1 else 0
end

section
variable {sa sj : Nat → Nat} {rc : Nat → Bool}

theorem vst_at {n i : Nat} (h : i < n) (s : Nat) : (vst sa sj rc n).2 i s = Vv sa sj rc i s := by
  induction n with
  | zero => omega
  | succ n ih =>
    by_cases e : i = n
    · subst e; rfl
    · rw [← ih (by omega)]; simp [vst, e]

theorem La_zero (a s : Nat) : La sa sj rc 0 a s = 0 := rfl
theorem La_succ (i a s : Nat) : La sa sj rc (i + 1) a s = if a = sa i then Vv sa sj rc i s else La sa sj rc i a s := by
  simp [La, Vv, vst]
theorem Vv_eq (i s : Nat) (hj : rc i = true → sj i < i) : Vv sa sj rc i s =
    (if rc i = true then max (La sa sj rc i (sa i) s) (Vv sa sj rc (sj i) s) else La sa sj rc i (sa i) s) + (if s = sa i then 1 else 0) := by
  have : Vv sa sj rc i s = nv sa sj rc i (vst sa sj rc i).1 (vst sa sj rc i).2 s := by simp [Vv, vst]
  rw [this, nv]
  by_cases h : rc i = true
  · rw [if_pos h, if_pos h, vst_at (hj h)]; rfl
  · rw [if_neg h, if_neg h]; rfl

theorem lst_at {n i : Nat} (h : i < n) : (lst sa sj rc n).2 i = Lv sa sj rc i := by
  induction n with
  | zero => omega
  | succ n ih =>
    by_cases e : i = n
    · subst e; rfl
    · rw [← ih (by omega)]; simp [lst, e]
theorem LL_zero (a : Nat) : LL sa sj rc 0 a = 0 := rfl
theorem LL_succ (i a : Nat) : LL sa sj rc (i + 1) a = if a = sa i then Lv sa sj rc i else LL sa sj rc i a := by
  simp [LL, Lv, lst]
theorem Lv_eq (i : Nat) (hj : rc i = true → sj i < i) : Lv sa sj rc i =
    (if rc i = true then max (LL sa sj rc i (sa i)) (Lv sa sj rc (sj i)) else LL sa sj rc i (sa i)) + 1 := by
  have : Lv sa sj rc i = nl sa sj rc i (lst sa sj rc i).1 (lst sa sj rc i).2 := by simp [Lv, lst]
  rw [this, nl]
  by_cases h : rc i = true
  · rw [if_pos h, if_pos h, lst_at (hj h)]; rfl
  · rw [if_neg h, if_neg h]; rfl

theorem cnt_mono {i n : Nat} (h : i ≤ n) (s : Nat) : cnt sa i s ≤ cnt sa n s := by
  induction n with
  | zero => obtain rfl : i = 0 := by omega
            exact Nat.le_refl _
  | succ n ih =>
    by_cases e : i = n + 1
    · subst e; exact Nat.le_refl _
    · have := ih (by omega)
      simp only [cnt]
      omega
theorem cnt_le (n s : Nat) : cnt sa n s ≤ n := by
  induction n with
  | zero => exact Nat.le_refl _
  | succ n ih => simp only [cnt]; split <;> omega
theorem cnt_at (i : Nat) : cnt sa (i + 1) (sa i) = cnt sa i (sa i) + 1 := by simp [cnt]

/-- What holds of a vector made of the first n events: it is in range, and whatever event it counts it is not below. -/
structure Good (n : Nat) (v : Nat → Int) (t : Int) : Prop where
  pos : ∀ s, 0 ≤ v s
  le : ∀ s, v s ≤ cnt sa n s
  over : ∀ j, j < n → (cnt sa (j + 1) (sa j) : Int) ≤ v (sa j) → (∀ s, Vv sa sj rc j s ≤ v s) ∧ Lv sa sj rc j ≤ t

theorem Good.more {n m : Nat} {v : Nat → Int} {t : Int} (h : Good (sa := sa) (sj := sj) (rc := rc) n v t) (hm : n ≤ m) : Good (sa := sa) (sj := sj) (rc := rc) m v t := by
  refine ⟨h.pos, fun s => ?_, fun j hj hc => ?_⟩
  · have := h.le s
    have := cnt_mono (sa := sa) hm s
    omega
  · by_cases e : j < n
    · exact h.over j e hc
    · exfalso
      have := h.le (sa j)
      have h2 := cnt_mono (sa := sa) (i := n) (n := j) (by omega) (sa j)
      have := cnt_at (sa := sa) j
      omega

theorem good_all (N : Nat) (hj : ∀ i, i < N → rc i = true → sj i < i) : ∀ n, n ≤ N →
    (∀ a, Good (sa := sa) (sj := sj) (rc := rc) n (La sa sj rc n a) (LL sa sj rc n a)) ∧ (∀ a, La sa sj rc n a a = cnt sa n a) ∧
    (∀ i, i < n → Good (sa := sa) (sj := sj) (rc := rc) (i + 1) (Vv sa sj rc i) (Lv sa sj rc i) ∧ Vv sa sj rc i (sa i) = cnt sa (i + 1) (sa i)) := by
  intro n
  induction n with
  | zero =>
    intro _
    refine ⟨fun a => ⟨fun s => by simp [La_zero], fun s => by simp [La_zero, cnt], fun j hj => by omega⟩, fun a => by simp [La_zero, cnt], fun i hi => by omega⟩
  | succ n ih =>
    intro hn
    obtain ⟨h1, h2, h3⟩ := ih (by omega)
    have hjn := hj n (by omega)
    -- the new vector
    have hV := fun s => Vv_eq (sa := sa) (sj := sj) (rc := rc) n s hjn
    have hL := Lv_eq (sa := sa) (sj := sj) (rc := rc) n hjn
    have own : Vv sa sj rc n (sa n) = cnt sa (n + 1) (sa n) := by
      rw [hV, cnt_at, h2]
      simp only [if_true]
      by_cases hr : rc n = true
      · rw [if_pos hr]
        have hlt := hjn hr
        have := (h3 _ hlt).1.le (sa n)
        have := cnt_mono (sa := sa) (i := sj n + 1) (n := n) (by omega) (sa n)
        omega
      · rw [if_neg hr]; omega
    have new : Good (sa := sa) (sj := sj) (rc := rc) (n + 1) (Vv sa sj rc n) (Lv sa sj rc n) := by
      refine ⟨fun s => ?_, fun s => ?_, fun j hjn' hc => ?_⟩
      · rw [hV]
        have := (h1 (sa n)).pos s
        split <;> split <;> omega
      · rw [hV]
        have a1 := (h1 (sa n)).le s
        have a2 : (cnt sa (n + 1) s : Int) = cnt sa n s + if s = sa n then 1 else 0 := by
          simp only [cnt]; split <;> simp
        rw [a2]
        by_cases hr : rc n = true
        · rw [if_pos hr]
          have hlt := hjn hr
          have := (h3 _ hlt).1.le s
          have := cnt_mono (sa := sa) (i := sj n + 1) (n := n) (by omega) s
          omega
        · rw [if_neg hr]; omega
      · by_cases e : j = n
        · subst e; exact ⟨fun s => Int.le_refl _, Int.le_refl _⟩
        · have hjlt : j < n := by omega
          -- either the site's last vector counts j, or the sender's does
          have key : (∀ s, Vv sa sj rc j s ≤ La sa sj rc n (sa n) s) ∧ Lv sa sj rc j ≤ LL sa sj rc n (sa n) ∨
              rc n = true ∧ (∀ s, Vv sa sj rc j s ≤ Vv sa sj rc (sj n) s) ∧ Lv sa sj rc j ≤ Lv sa sj rc (sj n) := by
            by_cases es : sa j = sa n
            · left
              refine (h1 (sa n)).over j hjlt ?_
              rw [es, h2]
              have := cnt_mono (sa := sa) (i := j + 1) (n := n) (by omega) (sa n)
              omega
            · rw [hV] at hc
              rw [if_neg es] at hc
              by_cases hr : rc n = true
              · rw [if_pos hr] at hc
                by_cases hm : (cnt sa (j + 1) (sa j) : Int) ≤ La sa sj rc n (sa n) (sa j)
                · left; exact (h1 (sa n)).over j hjlt hm
                · right
                  refine ⟨hr, ?_⟩
                  have hlt := hjn hr
                  exact ((h3 _ hlt).1.more (m := n) (by omega)).over j hjlt (by omega)
              · rw [if_neg hr] at hc
                left; exact (h1 (sa n)).over j hjlt (by omega)
          rcases key with ⟨k1, k2⟩ | ⟨hr, k1, k2⟩
          · refine ⟨fun s => ?_, ?_⟩
            · have := k1 s
              rw [hV s]; split <;> split <;> omega
            · rw [hL]; split <;> omega
          · refine ⟨fun s => ?_, ?_⟩
            · have := k1 s
              rw [hV s, if_pos hr]; split <;> omega
            · rw [hL, if_pos hr]; omega
    refine ⟨fun a => ?_, fun a => ?_, fun i hi => ?_⟩
    · by_cases e : a = sa n
      · have e1 : La sa sj rc (n + 1) a = Vv sa sj rc n := by funext s; rw [La_succ, if_pos e]
        have e2 : LL sa sj rc (n + 1) a = Lv sa sj rc n := by rw [LL_succ, if_pos e]
        rw [e1, e2]; exact new
      · have e1 : La sa sj rc (n + 1) a = La sa sj rc n a := by funext s; rw [La_succ, if_neg e]
        have e2 : LL sa sj rc (n + 1) a = LL sa sj rc n a := by rw [LL_succ, if_neg e]
        rw [e1, e2]; exact (h1 a).more (by omega)
    · rw [La_succ]
      by_cases e : a = sa n
      · rw [if_pos e, e, own]
      · rw [if_neg e, h2]; simp [cnt, e]
    · by_cases e : i = n
      · subst e; exact ⟨new, own⟩
      · exact h3 i (by omega)

variable {N : Nat} (hj : ∀ i, i < N → rc i = true → sj i < i)
include hj

/-- An event counted by another one's vector: its vector is nowhere greater, and it does not come later. -/
theorem counted {i k : Nat} (hi : i < N) (hk : k < N) (h : Vv sa sj rc i (sa i) ≤ Vv sa sj rc k (sa i)) : i ≤ k ∧ (∀ s, Vv sa sj rc i s ≤ Vv sa sj rc k s) ∧ Lv sa sj rc i ≤ Lv sa sj rc k := by
  obtain ⟨_, _, g⟩ := good_all (sa := sa) N hj N (Nat.le_refl _)
  obtain ⟨gi, oi⟩ := g i hi
  obtain ⟨gk, ok⟩ := g k hk
  rw [oi] at h
  have hle : i ≤ k := by
    have h1 := gk.le (sa i)
    refine Nat.le_of_not_lt fun hlt => ?_
    have h2 := cnt_mono (sa := sa) (i := k + 1) (n := i) (by omega) (sa i)
    have := cnt_at (sa := sa) i
    omega
  exact ⟨hle, gk.over i (by omega) h⟩

/-- And of two different events the Lamport number is less. -/
theorem counted_lt {i k : Nat} (hi : i < N) (hk : k < N) (hne : i ≠ k) (h : Vv sa sj rc i (sa i) ≤ Vv sa sj rc k (sa i)) : Lv sa sj rc i < Lv sa sj rc k := by
  have hle := (counted hj hi hk h).1
  have hlt : i < k := by omega
  obtain ⟨g1, g2, g⟩ := good_all (sa := sa) N hj N (Nat.le_refl _)
  obtain ⟨f1, f2, f⟩ := good_all (sa := sa) N hj k (by omega)
  obtain ⟨gi, oi⟩ := g i hi
  have hV := Vv_eq (sa := sa) (sj := sj) (rc := rc) k (sa i) (hj k hk)
  have hL := Lv_eq (sa := sa) (sj := sj) (rc := rc) k (hj k hk)
  rw [oi] at h
  by_cases es : sa i = sa k
  · have := ((f1 (sa k)).over i hlt (by rw [es, f2]; have := cnt_mono (sa := sa) (i := i + 1) (n := k) (by omega) (sa k); omega)).2
    rw [hL]; split <;> omega
  · rw [hV, if_neg es] at h
    by_cases hr : rc k = true
    · rw [if_pos hr] at h
      by_cases hm : (cnt sa (i + 1) (sa i) : Int) ≤ La sa sj rc k (sa k) (sa i)
      · have := ((f1 (sa k)).over i hlt hm).2
        rw [hL]; split <;> omega
      · have hlt2 := hj k hk hr
        have := (((f _ hlt2).1.more (m := k) (by omega)).over i hlt (by omega)).2
        rw [hL, if_pos hr]; omega
    · rw [if_neg hr] at h
      have := ((f1 (sa k)).over i hlt (by omega)).2
      rw [hL]; split <;> omega

theorem Vv_pos {i : Nat} (hi : i < N) (s : Nat) : 0 ≤ Vv sa sj rc i s ∧ Vv sa sj rc i s ≤ i + 1 := by
  obtain ⟨_, _, g⟩ := good_all (sa := sa) N hj N (Nat.le_refl _)
  obtain ⟨gi, _⟩ := g i hi
  have := gi.le s
  have := cnt_le (sa := sa) (i + 1) s
  exact ⟨gi.pos s, by omega⟩

theorem La_bd {i : Nat} (hi : i ≤ N) (a s : Nat) : 0 ≤ La sa sj rc i a s ∧ La sa sj rc i a s ≤ i := by
  obtain ⟨g, _, _⟩ := good_all (sa := sa) N hj i hi
  have := (g a).le s
  have := cnt_le (sa := sa) i s
  exact ⟨(g a).pos s, by omega⟩

theorem L_bd : ∀ n, n ≤ N → (∀ a, 0 ≤ LL sa sj rc n a ∧ LL sa sj rc n a ≤ n) ∧ ∀ i, i < n → 1 ≤ Lv sa sj rc i ∧ Lv sa sj rc i ≤ i + 1 := by
  intro n
  induction n with
  | zero => intro _; exact ⟨fun a => by simp [LL_zero], fun i hi => by omega⟩
  | succ n ih =>
    intro hn
    obtain ⟨h1, h2⟩ := ih (by omega)
    have hjn := hj n (by omega)
    have hL := Lv_eq (sa := sa) (sj := sj) (rc := rc) n hjn
    have new : 1 ≤ Lv sa sj rc n ∧ Lv sa sj rc n ≤ n + 1 := by
      have := h1 (sa n)
      rw [hL]
      by_cases hr : rc n = true
      · have := h2 _ (hjn hr)
        have := hjn hr
        rw [if_pos hr]; omega
      · rw [if_neg hr]; omega
    refine ⟨fun a => ?_, fun i hi => ?_⟩
    · rw [LL_succ]
      have := h1 a
      split <;> omega
    · by_cases e : i = n
      · subst e; exact new
      · exact h2 i (by omega)
end

/-- The first events' numbers do not depend on the later ones. -/
theorem vst_congr {sa sj sa' sj' : Nat → Nat} {rc rc' : Nat → Bool} : ∀ n, (∀ i, i < n → sa i = sa' i ∧ (rc i = true → sj i = sj' i) ∧ rc i = rc' i) → vst sa sj rc n = vst sa' sj' rc' n
  | 0, _ => rfl
  | n + 1, h => by
    have ih := vst_congr n (fun i hi => h i (by omega))
    obtain ⟨h1, h2, h3⟩ := h n (by omega)
    have e : ∀ la V s, nv sa sj rc n la V s = nv sa' sj' rc' n la V s := fun la V s => by
      unfold nv
      rw [← h1, ← h3]
      by_cases hr : rc n = true
      · rw [h2 hr]
      · rw [if_neg hr, if_neg hr]
    simp only [vst, ih, e, h1]
theorem lst_congr {sa sj sa' sj' : Nat → Nat} {rc rc' : Nat → Bool} : ∀ n, (∀ i, i < n → sa i = sa' i ∧ (rc i = true → sj i = sj' i) ∧ rc i = rc' i) → lst sa sj rc n = lst sa' sj' rc' n
  | 0, _ => rfl
  | n + 1, h => by
    have ih := lst_congr n (fun i hi => h i (by omega))
    obtain ⟨h1, h2, h3⟩ := h n (by omega)
    have e : ∀ la L, nl sa sj rc n la L = nl sa' sj' rc' n la L := fun la L => by
      unfold nl
      rw [← h1, ← h3]
      by_cases hr : rc n = true
      · rw [h2 hr]
      · rw [if_neg hr, if_neg hr]
    simp only [lst, ih, e, h1]

/-- Without messages an event's vector counts its own site's events alone. -/
theorem apart {sa sj : Nat → Nat} {rc : Nat → Bool} {N : Nat} (h0 : ∀ i, i < N → rc i = false) : ∀ n, n ≤ N →
    (∀ a s, La sa sj rc n a s = if s = a then (cnt sa n a : Int) else 0) ∧ ∀ i, i < n → ∀ s, Vv sa sj rc i s = if s = sa i then (cnt sa (i + 1) (sa i) : Int) else 0 := by
  intro n
  induction n with
  | zero => intro _; exact ⟨fun a s => by simp [La_zero, cnt], fun i hi => by omega⟩
  | succ n ih =>
    intro hn
    obtain ⟨h1, h2⟩ := ih (by omega)
    have hr := h0 n (by omega)
    have new : ∀ s, Vv sa sj rc n s = if s = sa n then (cnt sa (n + 1) (sa n) : Int) else 0 := fun s => by
      rw [Vv_eq n s (by simp [hr]), hr, h1, cnt_at]
      simp only [Bool.false_eq_true, if_false]
      by_cases e : s = sa n
      · simp [e]
      · simp [e]
    refine ⟨fun a s => ?_, fun i hi s => ?_⟩
    · rw [La_succ]
      by_cases e : a = sa n
      · subst e; rw [if_pos rfl, new]
      · rw [if_neg e, h1]; simp [cnt, e]
    · by_cases e : i = n
      · subst e; exact new s
      · exact h2 i (by omega) s

end Clk
end Go.Proofs.Ytchpgknaaofapaa
