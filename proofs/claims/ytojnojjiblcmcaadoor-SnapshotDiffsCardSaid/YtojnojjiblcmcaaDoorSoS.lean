/- slices.Sort of an own row of texts. -/
import Derived.Test.YtojnojjiblcmcaaDoorCoS
import Derived.Test.YtojnojjiblcmcaaDoorShS
import Derived.Test.YtojnojjiblcmcaaDoorR1
import Derived.Sort.OwnSorted
import Derived.Shelf.Slices.In.SortNone
namespace Go.Proofs.YtojnojjiblcmcaaDoor
open Go.RowKit Go.Sort

def leB (x y : List UInt8) : Bool := decide (x ≤ y)
/-- The texts in order. -/
def sortS (l : List ByteArray) : List ByteArray := ((l.map by_).mergeSort leB).map mkB
theorem encS (l : List ByteArray) : strsK l = (l.map by_).map encStr := by
  induction l with
  | nil => rfl
  | cons x l ih =>
    rw [strsK, rowsV_cons, List.map_cons, List.map_cons, ← ih]
    show [Value.string x] ++ _ = encStr (by_ x) :: _
    rw [show encStr (by_ x) = Value.string x from congrArg Value.string (mkB_by x)]
    rfl
theorem sortS_len (l : List ByteArray) : (sortS l).length = l.length := by simp [sortS]
theorem sortS_enc (l : List ByteArray) : strsK (sortS l) = ((l.map by_).mergeSort leB).map encStr := by
  have e : (by_ ∘ mkB : B8 → B8) = id := funext fun x => by_mkB x
  have e2 : (((l.map by_).mergeSort leB).map mkB).map by_ = (l.map by_).mergeSort leB := by rw [List.map_map, e, List.map_id]
  rw [encS, sortS, e2]
theorem sortS_perm (l : List ByteArray) : (sortS l).Perm l := by
  have h := (List.mergeSort_perm (l.map by_) leB).map mkB
  have e : (mkB ∘ by_ : ByteArray → ByteArray) = id := funext fun x => mkB_by x
  rw [List.map_map, e, List.map_id] at h
  exact h
theorem sortS_sorted (l : List ByteArray) : (sortS l).Pairwise (fun x y => by_ x ≤ by_ y) := by
  have h := List.pairwise_mergeSort (le := leB) (fun a b c h1 h2 => by
    simp only [leB, decide_eq_true_eq] at *
    exact List.le_trans h1 h2) (fun a b => by
    simp only [leB, Bool.or_eq_true, decide_eq_true_eq]
    exact List.le_total a b) (l.map by_)
  unfold sortS
  rw [List.pairwise_map]
  refine h.imp fun {a b} hab => ?_
  rw [by_mkB, by_mkB]
  simpa [leB] using hab

theorem SortS_any (base n c : Nat) (A : Option Addr) (l : List ByteArray) (w : World) (hO : w.ownsRow base 9 1 (.slice A n c) n (strsK l)) (hl : l.length = n) (hb : base ≤ w.heap.size) (hn : n ≤ 1000) :
    Calls Tryd.prog 38 #[.slice A n c] w fun e w' => e = .returned (.tuple #[]) ∧ w'.ownsRow base 9 1 (.slice A n c) n (strsK (sortS l)) ∧ Below base w w' := by
  cases A with
  | none =>
    obtain ⟨h1, h2⟩ := own_nil hO rfl
    subst h1 h2
    have hl0 : l = [] := List.length_eq_zero_iff.1 hl
    subst hl0
    refine (Any.slices_Sort_string_none Tryd.lays190 none 0 w).mono ?_
    rintro e w' ⟨he, rfl⟩
    exact ⟨he, by rw [show sortS [] = [] from List.length_eq_zero_iff.1 (sortS_len [])]; exact World.ownsRow_nil _ _ _ _, (Below.refl _ _).mono hb⟩
  | some a =>
    rcases hO.2 with ⟨h', _⟩ | ⟨g, cap, cur, h', hg, hh, hnc, hcm, hcs, htake⟩
    · simp at h'
    · simp only [Value.slice.injEq, Option.some.injEq, true_and] at h'
      obtain ⟨rfl, rfl⟩ := h'
      have hlt := (hO.lt g rfl).2
      have hH : Holds encStr w g 0 (l.map by_).toArray := fun i hi => by
        have hi' : i < l.length := by simpa using hi
        have q1 := hO.cellAt i (by omega)
        rw [Nat.zero_add, q1, encS]
        exact ⟨by simp [hi'], hO.frozenAt i⟩
      have hcon := Any.slices_Sort_string Tryd.lays190 g 0 c (l.map by_) w hH hlt (by simp; omega)
      rw [List.length_map, hl] at hcon
      refine hcon.mono ?_
      rintro e w' ⟨he, m, os, hw⟩
      have hown := ownsRow_sorted (w := w) (base := base) (g := g) (cap := c) (n := m) (os := os) (ss := l.map by_) (ts := (l.map by_).mergeSort leB) (by simp) hg hh (by rw [List.length_map, hl]; exact hnc) hcm hcs
      rw [List.length_map, hl, ← sortS_enc] at hown
      have hgr := grownBy_sorted (w := w) (g := g) (n := m) (os := os) ((l.map by_).mergeSort leB).toArray
      subst hw
      exact ⟨he, hown, ((Below.refl _ w).mono hb).grown hgr hb (fun k hk => by injection hk with hk; omega)⟩
end Go.Proofs.YtojnojjiblcmcaaDoor
