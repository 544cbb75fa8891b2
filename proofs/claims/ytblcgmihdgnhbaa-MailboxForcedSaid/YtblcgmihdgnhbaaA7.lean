/- Get of an empty box. -/
import Derived.Test.YtblcgmihdgnhbaaA3
namespace Go.Proofs.Ytblcgmihdgnhbaa
open Go.RowKit

set_option maxRecDepth 100000 in
set_option maxHeartbeats 1000000 in
theorem Get_none {g : Nat} {sz cnt : Int} {vs : Nat → Value} {ls : Nat → List Int} {C : Array Value} {w : World} (h : BoxAt g sz cnt vs ls C w) (he : ∀ q, q < 8 → ls q = []) :
    Calls Try.prog 11 #[.pointer (some ⟨g, 0, none⟩)] w fun e w' => e = .returned (.tuple #[.int .i64 0, .int .i64 0, .int .i64 8]) ∧ w = w' := by
  have HB := Lib.hid h
  have HE := Lib.hid he
  clear h he
  go_enter Try.func11, Try.ntmps11
  go_wp2
  go_loopw [6] (fun k wr => ∃ m : Nat, m ≤ 8 ∧ k = .int .i64 ((m : Int) - 1) ∧ w = wr) (fun k _ => ((intOf k) + 1).toNat)
  case atStart => exact ⟨8, by omega, rfl, rfl⟩
  case round =>
    obtain ⟨m, hm, rfl, rfl⟩ := hrel
    by_cases h0 : m = 0
    · subst h0
      go_wp2
      go_ret3
      exact ⟨rfl, rfl⟩
    · obtain ⟨j, rfl⟩ : ∃ j, m = j + 1 := ⟨m - 1, by omega⟩
      have hj : j < 8 := by omega
      obtain ⟨A, cj, hvj⟩ := own_shape (HB.out.own j hj)
      have ccj := (HB.out.cell (2 + j)).trans ((HB.out.cv j hj).trans (congrArg some hvj))
      have hlen : (ls j).length = 0 := by rw [HE.out j hj]; rfl
      rw [hlen] at ccj
      rw [show (((j + 1 : Nat) : Int) - 1) = (j : Int) by omega]
      have hj0 : (0 : Int) ≤ (j : Int) := by omega
      have hj8 : (j : Int) < 8 := by omega
      have hjw : IntKind.i64.wrap ((j : Int) - 1) = (j : Int) - 1 := IntWalk.i64_in _ (by omega)
      go_wp2
      go_roundw
      case rel => exact ⟨j, by omega, rfl, trivial⟩
      case measure => simp [intOf]
end Go.Proofs.Ytblcgmihdgnhbaa
