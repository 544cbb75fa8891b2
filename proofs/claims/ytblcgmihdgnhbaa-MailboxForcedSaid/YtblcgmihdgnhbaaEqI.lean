/- Arrays of ints as values: are they equal? -/
import Derived.Test.YtblcgmihdgnhbaaMem
import Derived.ChangeKeysEq
namespace Go.Proofs.Ytblcgmihdgnhbaa
open Go.RowKit

theorem run_eqItems_ints {P : Program} (d : Nat) {e : TypeId} (he : P.underlying e = some (.int .i64)) (hp : P.plainKey e = true) (xs ys : Array Value) (f g : Nat → Int) (w : World) : ∀ (is : List Nat),
    (∀ i ∈ is, xs[i]? = some (.int .i64 (f i)) ∧ ys[i]? = some (.int .i64 (g i))) → (Op.eqItems (d + 1) e 1 xs ys is).run P w = .ok (is.all fun i => f i == g i) w
  | [], _ => by simp [Op.eqItems]
  | i :: is, h => by
    have ih := run_eqItems_ints d he hp xs ys f g w is (fun j hj => h j (by simp [hj]))
    obtain ⟨h1, h2⟩ := h i (by simp)
    simp only [Op.eqItems, Sem.run_bind]
    rw [Nat.mul_one, run_part_plain w hp h1]
    simp only [Result.andThen_ok]
    rw [run_part_plain w hp h2]
    simp only [Result.andThen_ok]
    rw [run_equalIn_int w d e .i64 .i64 _ _ he]
    simp only [Result.andThen_ok]
    cases hfg : (f i == g i)
    · simp [hfg]
    · simpa [hfg] using ih

/-- Two arrays of n ints. -/
theorem run_equal_ints {P : Program} {t e : TypeId} {n : Nat} {i : TypeInfo} (hu : P.underlying t = some (.array n e)) (hi : P.info? e = some i) (hc : P.cellsOf e = 1) (he : P.underlying e = some (.int .i64)) (hp : P.plainKey e = true)
    (xs ys : Array Value) (f g : Nat → Int) (w : World) (h : ∀ i, i < n → xs[i]? = some (.int .i64 (f i)) ∧ ys[i]? = some (.int .i64 (g i))) :
    (Op.equalIn 10000 t (.agg xs) (.agg ys)).run P w = .ok ((List.range n).all fun i => f i == g i) w := by
  rw [show (10000 : Nat) = 9999 + 1 from rfl, run_equalIn_array w 9999 xs ys hu hi, hc]
  exact run_eqItems_ints 9998 he hp xs ys f g w _ (fun i hi => h i (List.mem_range.1 hi))
end Go.Proofs.Ytblcgmihdgnhbaa
