/- slices.Equal at []int. -/
import Derived.Test.YtmdfdjgeaemicaaMem
import Derived.BigQuiet
import Derived.Deep.QuietTactic
namespace Go.Proofs.Ytmdfdjgeaemicaa
open Go.RowKit

theorem ret_bool {a b : Bool} (h : a = b) : Ending.returned (.bool a) = .returned (.bool b) := by rw [h]

def eqB (n m : Nat) (f g : Nat → Int) : Bool := decide (n = m) && (List.range n).all fun i => decide (f i = g i)

theorem eqB_true {n m : Nat} {f g : Nat → Int} (h : n = m) (hf : ∀ i, i < n → f i = g i) : eqB n m f g = true := by
  simp [eqB, h]; intro i hi; exact hf i (by omega)
theorem eqB_iff {n m : Nat} {f g : Nat → Int} : eqB n m f g = true ↔ n = m ∧ ∀ i, i < n → f i = g i := by
  simp [eqB]
theorem eqB_false {n m : Nat} {f g : Nat → Int} (i : Nat) (hi : i < n) (h : f i ≠ g i) : eqB n m f g = false := by
  rw [Bool.eq_false_iff]
  intro hh
  exact h ((eqB_iff.1 hh).2 i hi)

set_option maxHeartbeats 1000000 in
theorem Equal_any (A B : Option Addr) (n m c d N : Nat) (f g : Nat → Int) (w : World) (hA : Sl w N 1 A n (fun i => [.int .i64 (f i)])) (hB : Sl w N 1 B m (fun i => [.int .i64 (g i)]))
    (hn : n ≤ 100000000) (hm : m ≤ 100000000) :
    Calls Try.prog 13 #[.slice A n c, .slice B m d] w fun e w' => e = .returned (.bool (eqB n m f g)) ∧ Below w.heap.size w w' := by
  by_cases hnm : n = m
  · subst hnm
    go_enter Try.func13, Try.ntmps13
    go_wp2
    go_loopw [13] (fun k wr => ∃ j : Nat, j ≤ n ∧ k = .int .i64 j ∧ Hid (∀ i, i < j → f i = g i) ∧ ∃ q, wr = w.drewN q) (fun k _ => n - (intOf k).toNat)
    case atStart => exact ⟨0, by omega, rfl, fun i hi => absurd hi (by omega), 0, rfl⟩
    case round =>
      obtain ⟨j, hj, rfl, hall, q, rfl⟩ := hrel
      by_cases hlt : j < n
      · obtain ⟨b, off, rfl, hb, hc⟩ := hA.one (by omega)
        obtain ⟨b2, off2, rfl, hb2, hc2⟩ := hB.one (by omega)
        have c1 := hc j hlt
        have c2 := hc2 j hlt
        clear hc hc2
        have l1 : (j : Int) < (n : Int) := by omega
        have l0 : (0 : Int) ≤ (j : Int) := by omega
        by_cases he : f j = g j
        · have he' : (f j != g j) = false := by rw [he]; simp
          have HE := Lib.hid he
          clear he
          go_wp2
          go_quiet (fail)
          go_wp2
          go_roundw
          case rel => exact ⟨j + 1, by omega, by go_num, fun i hi => by
            by_cases e : i = j
            · subst e; exact HE.out
            · exact hall.out i (by omega), _, rfl⟩
          case measure => simp [intOf]; omega
        · have he' : (f j != g j) = true := by rw [bne_iff_ne]; exact he
          have HE := Lib.hid he
          clear he
          go_wp2
          go_quiet (fail)
          go_wp2
          go_ret
          exact ⟨ret_bool (eqB_false j hlt HE.out).symm, below_drewN (below_drewN (Below.refl _ _) _) _⟩
      · go_wp2
        go_ret
        exact ⟨ret_bool (eqB_true rfl (fun i hi => hall.out i (by omega))).symm, below_drewN (Below.refl _ _) _⟩
  · have h1 : eqB n m f g = false := by simp [eqB, hnm]
    have H := Lib.hid h1
    have hne : ((n : Int) != (m : Int)) = true := by rw [bne_iff_ne]; omega
    clear h1 hnm
    go_enter Try.func13, Try.ntmps13
    go_wp2
    go_ret
    exact ⟨ret_bool H.out.symm, Below.refl _ _⟩

end Go.Proofs.Ytmdfdjgeaemicaa
