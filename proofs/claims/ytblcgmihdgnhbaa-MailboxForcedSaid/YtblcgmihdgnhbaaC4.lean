/- Force, all ways in one. -/
import Derived.Test.YtblcgmihdgnhbaaC3
import Derived.Test.YtblcgmihdgnhbaaPl2
namespace Go.Proofs.Ytblcgmihdgnhbaa
open Go.RowKit

/-- The three ways of Force. L: the least urgent priority (8: none). -/
def ForceWay (s m p L : Nat) (ls : Nat → List Int) (is : Bool) (er : Int) (c2 : Nat) (ls2 : Nat → List Int) : Prop :=
  (m < s ∧ is = false ∧ er = 0 ∧ c2 = m + 1 ∧ ∀ q, q < 8 → cnt8 (tellM ls2 8) q = if q = p then cnt8 (tellM ls 8) p + 1 else cnt8 (tellM ls 8) q) ∨
  (m = s ∧ p ≤ L ∧ is = false ∧ er = 9 ∧ c2 = m ∧ ls2 = ls) ∨
  (m = s ∧ L < p ∧ is = true ∧ er = 0 ∧ c2 = m ∧ ∀ q, q < 8 → cnt8 (tellM ls2 8) q = if q = L then cnt8 (tellM ls 8) L - 1 else if q = p then cnt8 (tellM ls 8) p + 1 else cnt8 (tellM ls 8) q)

def ForceP (g s m p L : Nat) (vs : Nat → Value) (ls : Nat → List Int) (w : World) (e : Ending) (w' : World) : Prop :=
  ∃ (y : Int) (is : Bool) (er : Int) (c2 : Nat) (vs2 : Nat → Value) (ls2 : Nat → List Int) (C2 : Array Value), e = .returned (.tuple #[.int .i64 y, .bool is, .int .i64 er]) ∧ BoxAt g (s : Int) (c2 : Int) vs2 ls2 C2 w' ∧ Below g w w' ∧ OffBox g vs w w' ∧
    (∀ q, q < 8 → (ls2 q).length ≤ 1000) ∧ ForceWay s m p L ls is er c2 ls2

theorem Force_all {g s m p L : Nat} {vs : Nat → Value} {ls : Nat → List Int} {C : Array Value} {w : World} (h : BoxAt g (s : Int) (m : Int) vs ls C w) (hp : p < 8) (hm : m ≤ s) (hs : s ≤ 12) (hl : ∀ q, q < 8 → (ls q).length ≤ 12) (hm0 : 0 < m ∨ m < s)
    (hL : ∀ q, q < 8 → q < L → ls q = []) (hL2 : L = 8 ∨ (L < 8 ∧ ls L ≠ [])) (x : Int) :
    Calls Try.prog 14 #[.pointer (some ⟨g, 0, none⟩), .int .i64 (p : Int), .int .i64 x] w (ForceP g s m p L vs ls w) := by
  have hlu : ∀ (f : Nat → List Int) (l : List Int), (∀ q, q < 8 → (f q).length ≤ 13) → l.length ≤ 13 → ∀ q, q < 8 → (upd f p l q).length ≤ 13 := fun f l h1 h2 q hq => by
    unfold upd; split
    · exact h2
    · exact h1 q hq
  by_cases h1 : m < s
  · refine (Force_room h p x hp (by omega) (by omega) (by omega) (by have := hl p hp; omega)).mono ?_
    rintro e w' ⟨vs', C', rfl, hB, hb, ho⟩
    refine ⟨0, false, 0, m + 1, vs', _, C', rfl, by simpa using hB, hb, ho, fun q hq => ?_, .inl ⟨h1, rfl, rfl, rfl, fun q hq => cnt_add hp hq x⟩⟩
    have := hlu ls (ls p ++ [x]) (fun q hq => by have := hl q hq; omega) (by have := hl p hp; simp; omega) q hq
    omega
  · have hms : m = s := by omega
    by_cases h2 : p ≤ L
    · refine (Force_low h p x hp (by omega) (fun q hq => hL q (by omega) (by omega))).mono ?_
      rintro e w' ⟨rfl, q, rfl⟩
      exact ⟨0, false, 9, m, vs, ls, C, rfl, h.drewN q, below_drewN (Below.refl _ _) q, fun k _ _ _ => rfl, fun q hq => by have := hl q hq; omega, .inr (.inl ⟨hms, h2, rfl, rfl, rfl, rfl⟩)⟩
    · have hLn : L < 8 ∧ ls L ≠ [] := by rcases hL2 with h3 | h3; · omega
                                         · exact h3
      obtain ⟨xs, y, hxy⟩ : ∃ xs y, ls L = xs ++ [y] := ⟨_, _, (List.dropLast_concat_getLast hLn.2).symm⟩
      have hxl : xs.length ≤ 11 := by have := hl L hLn.1; rw [hxy] at this; simp at this; omega
      refine (Force_out h p L x y xs hp (by omega) (by omega) (fun q hq => hL q (by omega) hq) hxy (by omega) (by omega) (by have := hl p hp; omega) (by omega)).mono ?_
      rintro e w' ⟨vs', C', rfl, hB, hb, ho⟩
      refine ⟨y, true, 0, m, vs', _, C', rfl, hB, hb, ho, fun q hq => ?_, .inr (.inr ⟨hms, by omega, rfl, rfl, rfl, fun q hq => cnt_swap hp (by omega) hxy hq x⟩)⟩
      have := hlu (upd ls L xs) (ls p ++ [x]) (fun q hq => by
        unfold upd; split
        · omega
        · have := hl q hq; omega) (by have := hl p hp; simp; omega) q hq
      omega
end Go.Proofs.Ytblcgmihdgnhbaa
