/- The iterator of a box: All, and what its closure tells. -/
import Derived.RangeFuncNested
import Derived.RangeFuncBound
import Derived.RangeFuncCalls
import Derived.RangeFuncLeaves
import Derived.RangeFuncBox
import Derived.Shelf.Abstract
import Derived.Shelf.RegionOpen
import Derived.WalkKit
import Derived.OwnWalkIn
import Derived.TacticsInMore
import Derived.LoopNIn
import Derived.LoopIn
import Derived.Test.YtblcgmihdgnhbaaA7
import Derived.Test.YtblcgmihdgnhbaaClone
namespace Go.Proofs.Ytblcgmihdgnhbaa
open Go.RowKit Go.Shelf

attribute [local go_sem] Oper.semAt_some

/-- The messages of the m most urgent priorities, in the order in which All tells them. -/
def tellM (ls : Nat → List Int) : Nat → List (Fin 8 × Int)
  | 0 => []
  | m + 1 => tellM ls m ++ (ls (7 - m)).map (fun v => (Fin.ofNat 8 (7 - m), v))

/-- What a round leaves alone: all blocks of cells from n0 on but those of pairs. -/
def KpM (n0 : Nat) (W W' : World) : Prop := W.heap.size ≤ W'.heap.size ∧ ∀ k C t, n0 ≤ k → t ≠ 39 → W.heap[k]? = some (.cells C t (0, 0)) → W'.heap[k]? = some (.cells C t (0, 0))

theorem KpM.refl (n0 : Nat) (W : World) : KpM n0 W W := ⟨Nat.le_refl _, fun _ _ _ _ _ h => h⟩
theorem KpM.trans {n0 : Nat} {A B C : World} (h : KpM n0 A B) (h' : KpM n0 B C) : KpM n0 A C :=
  ⟨Nat.le_trans h.1 h'.1, fun k D t hk ht hd => h'.2 k D t hk ht (h.2 k D t hk ht hd)⟩
theorem KpM.putObj {n0 : Nat} (W : World) (l : Nat) (o o' : Obj) (h : W.heap[l]? = some o) (hc : o.isCells = false) : KpM n0 W (W.putObj l o') := by
  refine ⟨(grownBy_putObj' W l o').size, fun k C t _ _ hk => ?_⟩
  by_cases e : k = l
  · subst e
    rw [h] at hk; cases hk; cases hc
  · exact (((grownBy_putObj' W l o').block k (Array.getElem?_eq_some_iff.1 hk).1 (fun x => e (by cases x; rfl)))).trans hk

theorem own_kpm {w w' : World} {base n size n0 : Nat} {e : TypeId} {v : Value} {xs : List Value} (h : w.ownsRow base e size v n xs) (hb : n0 ≤ base) (he : e ≠ 39) (hk : KpM n0 w w') : w'.ownsRow base e size v n xs := by
  refine ⟨h.1, ?_⟩
  rcases h.2 with hn | ⟨g, cap, cur, rfl, hb', hgg, rest⟩
  · exact .inl hn
  · exact .inr ⟨g, cap, cur, rfl, hb', hk.2 g cur e (by omega) he hgg, rest⟩

theorem tellM_len {ls : Nat → List Int} (h : ∀ p, p < 8 → (ls p).length ≤ 1000) : ∀ m, m ≤ 8 → (tellM ls m).length ≤ 1000 * m
  | 0, _ => by simp [tellM]
  | m + 1, hm => by
    have h1 := tellM_len h m (by omega)
    have h2 := h (7 - m) (by omega)
    simp only [tellM, List.length_append, List.length_map]
    omega

set_option maxHeartbeats 1000000 in
theorem All_in (p0 : Option Addr) (w : World) :
    Calls Try.prog 13 #[.pointer p0] w fun e w' => e = .returned (.func (.func 16) #[] #[.pointer (some ⟨w.heap.size, 0, none⟩)]) ∧ w' = w.alloc (.cells #[.pointer p0] 23) := by
  go_enter Try.func13, Try.ntmps13
  go_wp2
  go_ret
  exact ⟨rfl, rfl⟩

/-- The iterator's clones, p up to j. -/
def Clones (Na j : Nat) (us : Nat → Value) (ls : Nat → List Int) (C : Array Value) (w : World) : Prop :=
  w.heap[Na]? = some (.cells C 45 (0, 0)) ∧ C.size = 8 ∧ ∀ p, p < j → C[p]? = some (us p) ∧ w.ownsRow (Na + 1) 3 1 (us p) (ls p).length (intsV (ls p))

theorem Clones.keep {Na j n0 : Nat} {us : Nat → Value} {ls : Nat → List Int} {C : Array Value} {w w' : World} (h : Clones Na j us ls C w) (hn : n0 ≤ Na) (hk : KpM n0 w w') : Clones Na j us ls C w' :=
  ⟨hk.2 Na C 45 hn (by decide) h.1, h.2.1, fun p hp => ⟨(h.2.2 p hp).1, own_kpm (h.2.2 p hp).2 (by omega) (by decide) hk⟩⟩

theorem Clones.step {Na j : Nat} {us : Nat → Value} {ls : Nat → List Int} {C : Array Value} {w w' : World} {v : Value} (h : Clones Na j us ls C w) (hj : j < 8) (hb : Below w.heap.size w w')
    (hown : w'.ownsRow w.heap.size 3 1 v (ls j).length (intsV (ls j))) : Clones Na (j + 1) (upd us j v) ls (C.setIfInBounds j v) (w'.setCell ⟨Na, j, none⟩ v) := by
  obtain ⟨h1, h2, h3⟩ := h
  have hlt : Na < w.heap.size := (Array.getElem?_eq_some_iff.1 h1).1
  have h1' : w'.heap[Na]? = some (.cells C 45 (0, 0)) := (hb.block _ hlt).trans h1
  have hg := grown_setCell w' Na j v
  refine ⟨heap_setCell_same _ _ _ _ _ _ h1', by simp [h2], fun p hp => ?_⟩
  by_cases e : p = j
  · subst e
    rw [upd_at]
    refine ⟨by rw [Array.getElem?_setIfInBounds_self_of_lt (by omega)], ?_⟩
    exact (own_mono hown (by omega)).kept hg (.inr fun x => by have := (hown.lt Na x).1; omega)
  · rw [upd_ne _ _ e, Array.getElem?_setIfInBounds_ne (by omega)]
    obtain ⟨a, b⟩ := h3 p (by omega)
    exact ⟨a, (own_below b hb (Nat.le_refl _)).kept hg (.inr fun x => by have := (b.lt Na x).1; omega)⟩

theorem Sl_of_own3 {w : World} {base n c : Nat} {A : Option Addr} {l : List Int} (h : w.ownsRow base 3 1 (.slice A n c) n (intsV l)) (hn : n = l.length) : Sl w w.heap.size 1 A n (fun i => [.int .i64 (l[i]?.getD 0)]) :=
  Sl.of_own h (Nat.le_refl _) fun i hi j v hj => by
    have : j = 0 := by
      rcases Nat.eq_zero_or_pos j with h0 | h0
      · exact h0
      · rw [List.getElem?_eq_none (by simp; omega)] at hj; cases hj
    subst this
    simp only [List.getElem?_cons_zero, Option.some.injEq] at hj
    subst hj
    have : i < l.length := by omega
    simp [intsV, this]

theorem flat_ints (l : List Int) : flatR (fun i => [.int .i64 (l[i]?.getD 0)]) l.length = intsV l := by
  apply List.ext_getElem?
  intro p
  have hl := flatR_len (row := fun i => [Value.int .i64 (l[i]?.getD 0)]) (k := 1) l.length (fun i _ => rfl)
  rcases Nat.lt_or_ge p l.length with hp | hp
  · have := flatR_get (row := fun i => [Value.int .i64 (l[i]?.getD 0)]) (k := 1) l.length (fun i _ => rfl) p 0 hp (by decide)
    rw [Nat.mul_one, Nat.add_zero] at this
    rw [this]
    simp [intsV, hp]
  · rw [List.getElem?_eq_none (by omega), List.getElem?_eq_none (by simp [intsV]; omega)]

/-- slices.Clone of a list of ints that somebody owns. -/
theorem CloneL_any {A : Option Addr} {c base : Nat} {l : List Int} {w : World} (h : w.ownsRow base 3 1 (.slice A l.length c) l.length (intsV l)) (hl : l.length ≤ 1000) :
    Calls Try.prog 17 #[.slice A l.length c] w fun e w' => ∃ A' c', e = .returned (.slice A' l.length c') ∧ w'.ownsRow w.heap.size 3 1 (.slice A' l.length c') l.length (intsV l) ∧ Below w.heap.size w w' := by
  refine (CloneInts_any A l.length c (fun i => [.int .i64 (l[i]?.getD 0)]) w (Sl_of_own3 h rfl) (fun _ _ => rfl) (fun i _ u hu => by simp at hu; subst hu; rfl) (fun hA => ?_) (by unfold maxLen; omega) (by omega)).mono ?_
  · subst hA
    rcases h.2 with ⟨h1, h2⟩ | ⟨g, cap, cur, h1, _⟩
    · exact h2
    · cases h1
  · rintro e w' ⟨v, rfl, hown, hb⟩
    rw [flat_ints] at hown
    rcases hown.2 with ⟨rfl, h2⟩ | ⟨g, cap, cur, rfl, _⟩
    · exact ⟨none, 0, by rw [h2], by rw [h2] at hown ⊢; exact hown, hb⟩
    · exact ⟨_, cap, rfl, hown, hb⟩
end Go.Proofs.Ytblcgmihdgnhbaa
