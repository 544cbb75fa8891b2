/- Package label: Greedy. -/
import Derived.Test.YtpnihjomemojlaaB6
import Derived.Test.YtpnihjomemojlaaCut
namespace Go.Proofs.Ytpnihjomemojlaa
open Go.RowKit

def spotF (l : List It) (u : List Bx) (i : It) : Option Nat := (List.range 8).find? fun k => freeB l u (boxS i k)
def stepG (l : List It) (q : List Int × List Bx) (i : It) : List Int × List Bx :=
  match spotF l q.2 i with | some k => (q.1 ++ [(k : Int)], q.2 ++ [boxS i k]) | none => (q.1 ++ [-1], q.2)
def greedyG (l : List It) : Nat → List Int × List Bx
  | 0 => ([], [])
  | j + 1 => stepG l (greedyG l j) l[j]!
theorem spotF_some {l : List It} {u : List Bx} {i : It} {k : Nat} (hk : k < 8) (h : freeB l u (boxS i k) = true) (hlt : ∀ m, m < k → freeB l u (boxS i m) = false) : spotF l u i = some k := by
  unfold spotF
  rw [List.find?_range_eq_some]
  exact ⟨h, by simpa using hk, fun j hj => by rw [hlt j hj]; rfl⟩
theorem spotF_none {l : List It} {u : List Bx} {i : It} (h : ∀ m, m < 8 → freeB l u (boxS i m) = false) : spotF l u i = none := by
  unfold spotF
  rw [List.find?_eq_none]
  intro x hx
  rw [h x (List.mem_range.1 hx)]
  decide
theorem greedyG_len (l : List It) : ∀ j, (greedyG l j).1.length = j ∧ (greedyG l j).2.length ≤ j
  | 0 => ⟨rfl, Nat.le_refl _⟩
  | j + 1 => by
    obtain ⟨h1, h2⟩ := greedyG_len l j
    show (stepG l (greedyG l j) l[j]!).1.length = j + 1 ∧ (stepG l (greedyG l j) l[j]!).2.length ≤ j + 1
    unfold stepG
    split
    · simp only [List.length_append, List.length_singleton]; omega
    · simp only [List.length_append, List.length_singleton]; omega
end Go.Proofs.Ytpnihjomemojlaa
