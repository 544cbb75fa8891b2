/- SameState at equal states; the plain law of SnapshotOrders. -/
import Derived.Test.YtjmdebeffpdpcaaGreatDoorSB3
namespace Go.Proofs.YtjmdebeffpdpcaaGreatDoor
open Go.RowKit

theorem put_put {l : List Rw} (hs : SortedK key1 l) {x y : Rw} (hne : x.1 ≠ y.1) : putK key1 (putK key1 l x) y = putK key1 (putK key1 l y) x := by
  refine sorted_ext (putK_sorted (putK_sorted hs _) _) (putK_sorted (putK_sorted hs _) _) fun z => ?_
  rw [putK_mem (putK_sorted hs _), putK_mem (putK_sorted hs _), putK_mem hs, putK_mem hs]
  constructor
  · rintro (rfl | ⟨rfl | ⟨h1, h2⟩, h3⟩)
    · exact Or.inr ⟨Or.inl rfl, fun e => hne e.symm⟩
    · exact Or.inl rfl
    · exact Or.inr ⟨Or.inr ⟨h1, h3⟩, h2⟩
  · rintro (rfl | ⟨rfl | ⟨h1, h2⟩, h3⟩)
    · exact Or.inr ⟨Or.inl rfl, hne⟩
    · exact Or.inl rfl
    · exact Or.inr ⟨Or.inr ⟨h1, h3⟩, h2⟩
theorem setC_fine {l : List Rw} (h : Fine l) {t v : ByteArray} (hk : keyB t = true) (hv : valB v = true) : setC l t v = if 64 < (putK key1 l (t, v)).length then 9 else 0 := by
  unfold setC
  rw [if_neg (by simpa using fine_check h), hk, hv]
  rfl
theorem orders {l : List Rw} {a b v w : ByteArray} (hne : ¬ a = b) (h1 : setC l a v = 0) (h2 : setC l b w = 0) :
    setC (putK key1 l (b, w)) a v = setC (putK key1 l (a, v)) b w ∧ setR (putK key1 l (b, w)) a v = setR (putK key1 l (a, v)) b w := by
  obtain ⟨hf, ka, va, _⟩ := setC_zero h1
  obtain ⟨_, kb, vb, _⟩ := setC_zero h2
  have hp : putK key1 (putK key1 l (b, w)) (a, v) = putK key1 (putK key1 l (a, v)) (b, w) := put_put hf.sorted (fun e => hne (show a = b from e.symm))
  have hc : setC (putK key1 l (b, w)) a v = setC (putK key1 l (a, v)) b w := by
    rw [setC_fine (put_fine h2) ka va, setC_fine (put_fine h1) kb vb, hp]
  exact ⟨hc, by unfold setR; rw [hc, hp]⟩

set_option maxRecDepth 100000 in
set_option maxHeartbeats 4000000 in
theorem Same_any (A B : Option Addr) (n c d N : Nat) (l : List Rw) (w : World) (hA : Sl w N 2 A n (fun i => rwV l[i]!)) (hB : Sl w N 2 B n (fun i => rwV l[i]!)) (hn : n ≤ maxLen) :
    Calls Tryz.prog 15 #[.slice A n c, .slice B n d] w fun e w' => e = .returned (.bool true) ∧ Below w.heap.size w w' := by
  unfold maxLen at hn
  have HA := Lib.hid hA
  have HB := Lib.hid hB
  clear hA hB
  go_enter Tryz.func15, Tryz.ntmps15
  go_wp2
  go_loopw [13] (fun k wr => ∃ j : Nat, j ≤ n ∧ k = .int .i64 j ∧ ∃ q, wr = w.drewN q) (fun k _ => n - (intOf k).toNat)
  case atStart => exact ⟨0, by omega, rfl, 0, rfl⟩
  case round =>
    obtain ⟨j, hj, rfl, q, rfl⟩ := hrel
    by_cases hlt : j < n
    · obtain ⟨b, off, rfl, hb, hr⟩ := HA.out (by omega)
      obtain ⟨b2, off2, rfl, hb2, hr2⟩ := HB.out (by omega)
      have o0 : w.cell? ⟨b, off + j * 2, none⟩ = some (.string (l[j]!).1) := hr j hlt 0 _ rfl
      have o1 : w.cell? ⟨b, off + j * 2 + 1, none⟩ = some (.string (l[j]!).2) := hr j hlt 1 _ rfl
      have p0 : w.cell? ⟨b2, off2 + j * 2, none⟩ = some (.string (l[j]!).1) := hr2 j hlt 0 _ rfl
      have p1 : w.cell? ⟨b2, off2 + j * 2 + 1, none⟩ = some (.string (l[j]!).2) := hr2 j hlt 1 _ rfl
      have l1 : (j : Int) < (n : Int) := by omega
      have l0 : (0 : Int) ≤ (j : Int) := by omega
      clear hr hr2
      generalize (l[j]!).1 = xk at *
      generalize (l[j]!).2 = xv at *
      go_wp2
      go_quiet (fail)
      go_wp2
      go_roundw
      case rel => exact ⟨j + 1, by omega, by go_num, _, rfl⟩
      case measure => simp [intOf]; omega
    · go_wp2
      go_ret
      exact ⟨rfl, below_drewN (Below.refl _ _) _⟩
end Go.Proofs.YtjmdebeffpdpcaaGreatDoor
