/- Package clock: Order's comparison. -/
import Derived.Test.YtchpgknaaofapaaA13
import Derived.Handy
import Derived.Shelf.SlSortCmp.Whole1
namespace Go.Proofs.Ytchpgknaaofapaa
open Go.RowKit Go.Sort

def orI (x y : Int) : Int := if x ≠ 0 then x else y

set_option maxHeartbeats 1000000 in
theorem Or_any (b : Nat) (x y : Int) (w : World) (h0 : w.cell? ⟨b, 0, none⟩ = some (.int .i64 x)) (h1 : w.cell? ⟨b, 1, none⟩ = some (.int .i64 y)) :
    Calls Try.prog 25 #[.slice (some ⟨b, 0, none⟩) 2 2] w fun e w' => e = .returned (.int .i64 (orI x y)) ∧ w = w' := by
  by_cases hx : x = 0
  · have hx' : (x != 0) = false := by simp [hx]
    by_cases hy : y = 0
    · have hy' : (y != 0) = false := by simp [hy]
      have HR : Hid (orI x y = 0) := Lib.hid (by unfold orI; rw [if_neg (by omega), hy])
      clear hx hy
      go_enter Try.func25, Try.ntmps25
      go_wp2
      go_rounds 3
      all_goals (go_ret; exact ⟨by rw [HR.out]; rfl, rfl⟩)
    · have hy' : (y != 0) = true := by simp [hy]
      have HR : Hid (orI x y = y) := Lib.hid (by unfold orI; rw [if_neg (by omega)])
      clear hx hy
      go_enter Try.func25, Try.ntmps25
      go_wp2
      go_rounds 3
      all_goals (go_ret; exact ⟨by rw [HR.out]; rfl, rfl⟩)
  · have hx' : (x != 0) = true := by simp [hx]
    have HR : Hid (orI x y = x) := Lib.hid (by unfold orI; rw [if_pos hx])
    clear hx
    go_enter Try.func25, Try.ntmps25
    go_wp2
    go_rounds 3
    all_goals (go_ret; exact ⟨by rw [HR.out]; rfl, rfl⟩)

def cfO (l : List Ev) (i k : Nat) : Int := orI (LvE l i - LvE l k) (l[i]!.1 - l[k]!.1)

set_option maxRecDepth 100000 in
set_option maxHeartbeats 2000000 in
theorem cmp_any (l : List Ev) (B1 B2 a1 b off N c1 c2 i k : Nat) (W : World) (h1 : W.cell? ⟨B1, 0, none⟩ = some (.slice (some ⟨a1, 0, none⟩) N c1)) (h2 : W.cell? ⟨B2, 0, none⟩ = some (.slice (some ⟨b, off, none⟩) N c2))
    (hn : ∀ i, i < N → W.cell? ⟨a1, i, none⟩ = some (.int .i64 (LvE l i))) (he : ∀ i, i < N → W.cell? ⟨b, off + i * 3, none⟩ = some (.int .i64 l[i]!.1)) (hi : i < N) (hk : k < N)
    (hL : ∀ i, i < N → 0 ≤ LvE l i ∧ LvE l i ≤ 1000) (hS : ∀ i, i < N → 0 ≤ l[i]!.1 ∧ l[i]!.1 ≤ 8) :
    Calls Try.prog 24 #[.int .i64 i, .int .i64 k, .pointer (some ⟨B1, 0, none⟩), .pointer (some ⟨B2, 0, none⟩)] W fun e w' => e = .returned (.int .i64 (cfO l i k)) ∧ ∃ q os', w' = grow (W.drewN q) os' := by
  have n1 := hn i hi
  have n2 := hn k hk
  have e1 := he i hi
  have e2 := he k hk
  have l1 := hL i hi
  have l2 := hL k hk
  have s1 := hS i hi
  have s2 := hS k hk
  have hi0 : (0 : Int) ≤ (i : Int) := by omega
  have hk0 : (0 : Int) ≤ (k : Int) := by omega
  have hiN : (i : Int) < (N : Int) := by omega
  have hkN : (k : Int) < (N : Int) := by omega
  have HC : Hid (cfO l i k = orI (LvE l i - LvE l k) (l[i]!.1 - l[k]!.1)) := Lib.hid rfl
  generalize cfO l i k = r at *
  generalize LvE l i = x1 at *
  generalize LvE l k = x2 at *
  generalize l[i]!.1 = y1 at *
  generalize l[k]!.1 = y2 at *
  have w1 : IntKind.i64.wrap (x1 - x2) = x1 - x2 := IntWalk.i64_in _ (by omega)
  have w2 : IntKind.i64.wrap (y1 - y2) = y1 - y2 := IntWalk.i64_in _ (by omega)
  clear hn he hL hS
  go_enter Try.func24, Try.ntmps24
  go_wp2
  go_still_tail 20, (by kernel_rfl)
  change wpList _ _ _ _ _ W.drew
  go_wp2_with (go_at_call 25; go_loud (refine (Or_any W.heap.size (x1 - x2) (y1 - y2) _ (by simp) (by simp)).mono ?_; rintro e w' ⟨rfl, rfl⟩))
  go_ret
  exact ⟨by rw [HC.out]; rfl, 1, _, (alloc_eq_grow W.drew _)⟩
end Go.Proofs.Ytchpgknaaofapaa
