/- Package label: moving all points leaves the positions (plain law). -/
import Derived.Test.YtpnihjomemojlaaB6
import Derived.Test.YtpnihjomemojlaaCut
namespace Go.Proofs.Ytpnihjomemojlaa
open Go.RowKit

theorem wr64_id {n : Int} (h1 : -1000000 ≤ n) (h2 : n ≤ 1000000) : wr64 n = n := IntWalk.i64_in _ (by omega)

def mvI (x y : Int) (i : It) : It := ⟨i.x + x, i.y + y, i.w, i.h⟩
def mvB (x y : Int) (b : Bx) : Bx := ⟨b.x + x, b.y + y, b.w, b.h⟩
structure OkI (i : It) : Prop where
  x1 : -800 ≤ i.x
  x2 : i.x ≤ 800
  y1 : -800 ≤ i.y
  y2 : i.y ≤ 800
  w1 : 1 ≤ i.w
  w2 : i.w ≤ 40
  h1 : 1 ≤ i.h
  h2 : i.h ≤ 40
structure OkB (b : Bx) : Prop where
  x1 : -1000 ≤ b.x
  x2 : b.x ≤ 1000
  y1 : -1000 ≤ b.y
  y2 : b.y ≤ 1000
  w1 : 1 ≤ b.w
  w2 : b.w ≤ 40
  h1 : 1 ≤ b.h
  h2 : b.h ≤ 40

theorem meet_mv {x y : Int} (hx : -100 ≤ x ∧ x ≤ 100) (hy : -100 ≤ y ∧ y ≤ 100) {a b : Bx} (ha : OkB a) (hb : OkB b) : meetW (mvB x y a) (mvB x y b) = meetW a b := by
  obtain ⟨a1, a2, a3, a4, a5, a6, a7, a8⟩ := ha
  obtain ⟨b1, b2, b3, b4, b5, b6, b7, b8⟩ := hb
  unfold meetW mvB
  dsimp only
  rw [wr64_id (n := b.x + x + b.w) (by omega) (by omega), wr64_id (n := a.x + x + a.w) (by omega) (by omega), wr64_id (n := b.y + y + b.h) (by omega) (by omega), wr64_id (n := a.y + y + a.h) (by omega) (by omega),
    wr64_id (n := b.x + b.w) (by omega) (by omega), wr64_id (n := a.x + a.w) (by omega) (by omega), wr64_id (n := b.y + b.h) (by omega) (by omega), wr64_id (n := a.y + a.h) (by omega) (by omega)]
  rw [show decide (a.x + x < b.x + x + b.w) = decide (a.x < b.x + b.w) from decide_eq_decide.2 (by omega), show decide (b.x + x < a.x + x + a.w) = decide (b.x < a.x + a.w) from decide_eq_decide.2 (by omega),
    show decide (a.y + y < b.y + y + b.h) = decide (a.y < b.y + b.h) from decide_eq_decide.2 (by omega), show decide (b.y + y < a.y + y + a.h) = decide (b.y < a.y + a.h) from decide_eq_decide.2 (by omega)]
theorem cell1_ok {i : It} (h : OkI i) : OkB (cell1 i) := by
  obtain ⟨a1, a2, a3, a4, a5, a6, a7, a8⟩ := h
  constructor <;> (show _ ≤ _; simp only [cell1]; omega)
theorem boxS_ok {i : It} (h : OkI i) (k : Nat) : OkB (boxS i k) ∧ ∀ {x y : Int}, (-100 ≤ x ∧ x ≤ 100) → (-100 ≤ y ∧ y ≤ 100) → boxS (mvI x y i) k = mvB x y (boxS i k) := by
  obtain ⟨a1, a2, a3, a4, a5, a6, a7, a8⟩ := h
  have e1 : (i.w).tdiv 2 = i.w / 2 := Int.tdiv_eq_ediv_of_nonneg (by omega)
  have e2 : (i.h).tdiv 2 = i.h / 2 := Int.tdiv_eq_ediv_of_nonneg (by omega)
  have d1 : 0 ≤ i.w / 2 ∧ i.w / 2 ≤ 20 := by omega
  have d2 : 0 ≤ i.h / 2 ∧ i.h / 2 ≤ 20 := by omega
  have r5 : wr64 (i.w.tdiv 2) = i.w / 2 := by rw [e1]; exact wr64_id (by omega) (by omega)
  have r6 : wr64 (i.h.tdiv 2) = i.h / 2 := by rw [e2]; exact wr64_id (by omega) (by omega)
  generalize i.w / 2 = p at *
  generalize i.h / 2 = q at *
  have r1 : wr64 (i.x + 1) = i.x + 1 := wr64_id (by omega) (by omega)
  have r2 : wr64 (i.x - i.w) = i.x - i.w := wr64_id (by omega) (by omega)
  have r3 : wr64 (i.y + 1) = i.y + 1 := wr64_id (by omega) (by omega)
  have r4 : wr64 (i.y - i.h) = i.y - i.h := wr64_id (by omega) (by omega)
  have r7 : wr64 (i.x - p) = i.x - p := wr64_id (by omega) (by omega)
  have r8 : wr64 (i.y - q) = i.y - q := wr64_id (by omega) (by omega)
  refine ⟨?_, fun {x y} hx hy => ?_⟩
  · match k with
    | 0 | 1 | 2 | 3 | 4 | 5 | 6 => all_goals (simp only [boxS, r1, r2, r3, r4, r5, r6, r7, r8]; constructor <;> (show _ ≤ _; dsimp only; omega))
    | k + 7 => simp only [boxS, r4, r5, r7]; constructor <;> (show _ ≤ _; dsimp only; omega)
  · have s1 : wr64 (i.x + x + 1) = i.x + 1 + x := (wr64_id (by omega) (by omega)).trans (by omega)
    have s2 : wr64 (i.x + x - i.w) = i.x - i.w + x := (wr64_id (by omega) (by omega)).trans (by omega)
    have s3 : wr64 (i.y + y + 1) = i.y + 1 + y := (wr64_id (by omega) (by omega)).trans (by omega)
    have s4 : wr64 (i.y + y - i.h) = i.y - i.h + y := (wr64_id (by omega) (by omega)).trans (by omega)
    have s7 : wr64 (i.x + x - p) = i.x - p + x := (wr64_id (by omega) (by omega)).trans (by omega)
    have s8 : wr64 (i.y + y - q) = i.y - q + y := (wr64_id (by omega) (by omega)).trans (by omega)
    match k with
    | 0 | 1 | 2 | 3 | 4 | 5 | 6 => all_goals simp only [boxS, mvI, mvB, r1, r2, r3, r4, r5, r6, r7, r8, s1, s2, s3, s4, s7, s8]
    | k + 7 => simp only [boxS, mvI, mvB, r4, r5, r7, s4, s7]

theorem any_map_congr {α β : Type} {f : α → β} {p : β → Bool} {q : α → Bool} : ∀ {l : List α}, (∀ x, x ∈ l → p (f x) = q x) → (l.map f).any p = l.any q
  | [], _ => rfl
  | a :: l, h => by rw [List.map_cons, List.any_cons, List.any_cons, h a (by simp), any_map_congr fun x hx => h x (by simp [hx])]

section
variable {x y : Int} (hx : -100 ≤ x ∧ x ≤ 100) (hy : -100 ≤ y ∧ y ≤ 100)
include hx hy
theorem free_mv {l : List It} {u : List Bx} {b : Bx} (hl : ∀ i ∈ l, OkI i) (hu : ∀ c ∈ u, OkB c) (hb : OkB b) : freeB (l.map (mvI x y)) (u.map (mvB x y)) (mvB x y b) = freeB l u b := by
  unfold freeB
  rw [any_map_congr (q := fun i => meetW b (cell1 i)) fun i hi => ?_, any_map_congr (q := fun c => meetW b c) fun c hc => meet_mv hx hy hb (hu c hc)]
  show meetW (mvB x y b) (mvB x y (cell1 i)) = _
  exact meet_mv hx hy hb (cell1_ok (hl i hi))
theorem srch_mv {l : List It} (hl : ∀ i ∈ l, OkI i) : ∀ (f : Nat) (s : List Int) (u : List Bx), (∀ c ∈ u, OkB c) → s.length + f = l.length → srch (l.map (mvI x y)) f s (u.map (mvB x y)) = srch l f s u
  | 0, s, u, _, _ => rfl
  | f + 1, s, u, hu, hlen => by
    have hs : s.length < l.length := by omega
    have hm : l[s.length]! ∈ l := by rw [getElem!_pos l _ hs]; exact List.getElem_mem hs
    have hg : (l.map (mvI x y))[s.length]! = mvI x y l[s.length]! := by
      rw [getElem!_pos _ _ (by simpa using hs), getElem!_pos l _ hs, List.getElem_map]
    have hk : ∀ r, srchK (srch (l.map (mvI x y)) f) (l.map (mvI x y)) s (u.map (mvB x y)) r = srchK (srch l f) l s u r := fun r => by
      induction r with
      | zero => rfl
      | succ r ih =>
        obtain ⟨ok, hmv⟩ := boxS_ok (hl _ hm) (7 - r)
        unfold srchK
        rw [hg, hmv hx hy, free_mv hx hy hl hu ok, ih]
        have hr := srch_mv hl f (s ++ [((7 - r : Nat) : Int)]) (u ++ [boxS l[s.length]! (7 - r)]) (fun c hc => by
          rcases List.mem_append.1 hc with hc | hc
          · exact hu c hc
          · rw [List.mem_singleton.1 hc]; exact ok) (by rw [List.length_append, List.length_singleton]; omega)
        rw [List.map_append, List.map_singleton] at hr
        rw [hr]
    exact hk 8
theorem bad_mv {i : It} (h : (-800 ≤ i.x ∧ i.x ≤ 800) ∧ -800 ≤ i.y ∧ i.y ≤ 800) : badB (mvI x y i) = badB i := by
  have h1 : wr64 (-(i.x + x)) = -(i.x + x) := wr64_id (by omega) (by omega)
  have h2 : wr64 (-(i.y + y)) = -(i.y + y) := wr64_id (by omega) (by omega)
  have h3 : wr64 (-i.x) = -i.x := wr64_id (by omega) (by omega)
  have h4 : wr64 (-i.y) = -i.y := wr64_id (by omega) (by omega)
  have e1 : decide (1000 < max (i.x + x) (-(i.x + x))) = false := decide_eq_false (by omega)
  have e2 : decide (1000 < max (i.y + y) (-(i.y + y))) = false := decide_eq_false (by omega)
  have e3 : decide (1000 < max i.x (-i.x)) = false := decide_eq_false (by omega)
  have e4 : decide (1000 < max i.y (-i.y)) = false := decide_eq_false (by omega)
  have e5 : decide (i.x + x = -9223372036854775808) = false := decide_eq_false (by omega)
  have e6 : decide (i.y + y = -9223372036854775808) = false := decide_eq_false (by omega)
  have e7 : decide (i.x = -9223372036854775808) = false := decide_eq_false (by omega)
  have e8 : decide (i.y = -9223372036854775808) = false := decide_eq_false (by omega)
  unfold badB mvI
  dsimp only
  rw [h1, h2, h3, h4, e1, e2, e3, e4, e5, e6, e7, e8]
theorem place_mv {l : List It} (hl : ∀ i ∈ l, (-800 ≤ i.x ∧ i.x ≤ 800) ∧ -800 ≤ i.y ∧ i.y ≤ 800) : placeX (l.map (mvI x y)) = placeX l := by
  have hck : ckL (l.map (mvI x y)) = ckL l := by
    unfold ckL
    rw [List.length_map, any_map_congr (q := badB) fun i hi => bad_mv hx hy (hl i hi)]
  unfold placeX
  rw [hck, List.length_map]
  by_cases h0 : ckL l = 0
  · have hok : ∀ i ∈ l, OkI i := fun i hi => by
      have hb : badB i = false := by
        cases hb : badB i with
        | false => rfl
        | true =>
          exfalso
          have : l.any badB = true := List.any_eq_true.2 ⟨i, hi, hb⟩
          unfold ckL at h0
          rw [this] at h0
          split at h0 <;> simp at h0
      unfold badB at hb
      simp only [Bool.or_eq_false_iff, decide_eq_false_iff_not] at hb
      obtain ⟨⟨⟨⟨⟨⟨⟨_, _⟩, _⟩, _⟩, t5⟩, t6⟩, t7⟩, t8⟩ := hb
      obtain ⟨⟨b1, b2⟩, b3, b4⟩ := hl i hi
      exact ⟨b1, b2, b3, b4, by omega, by omega, by omega, by omega⟩
    have := srch_mv hx hy hok l.length [] [] (fun c hc => by cases hc) (by simp)
    rw [List.map_nil] at this
    rw [this]
  · rw [if_pos h0, if_pos h0]
end
end Go.Proofs.Ytpnihjomemojlaa
