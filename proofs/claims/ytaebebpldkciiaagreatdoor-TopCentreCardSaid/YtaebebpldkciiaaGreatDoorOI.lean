/- Opening a slice of ints. -/
import Derived.Test.YtaebebpldkciiaaGreatDoorOpen
namespace Go.Proofs.YtaebebpldkciiaaGreatDoor
open Go.RowKit Go.ChangeShapes Go.WideShapes Go.Deep

set_option maxRecDepth 100000 in
theorem cellsInt : Tryz.prog.cellsOf 3 = 1 := by kernel_rfl

set_option maxRecDepth 100000 in
theorem open_l {H : Type} {enc : TypeId × Value → H} {w : World} {b0 : Nat} {r : Reach} {v : Value} {d : DataW H} {p : List MemPlace} (hv : Value.okWide Tryz.prog w r b0 29 v) (h : DataW.Trod enc Tryz.prog w 0 (fun _ => true) true 29 v d p) :
    ∃ (A : Option Addr) (n c : Nat) (f : Nat → Int), v = .slice A n c ∧ n ≤ c ∧ c ≤ maxLen ∧ Sl w w.heap.size 1 A n (fun i => [.int .i64 (f i)]) ∧ (A = none → n = 0 ∧ c = 0) := by
  obtain ⟨a0, len, cap, rfl⟩ := okWide_slice Tryz.underlying29 hv
  obtain ⟨fuel, hf⟩ := h
  rcases open_ints Tryz.underlying29 Tryz.underlying3 cellsInt hf with ⟨hcs, _⟩ | ⟨a, len', cap', zs, hcs, _, hl, hm, hlen, hx, hi, _⟩
  · simp [Value.cells] at hcs
    obtain ⟨rfl, rfl, rfl⟩ := hcs
    exact ⟨none, 0, 0, fun _ => 0, rfl, Nat.le_refl _, by decide, Sl.none_, fun _ => ⟨rfl, rfl⟩⟩
  · simp [Value.cells] at hcs
    obtain ⟨rfl, rfl, rfl⟩ := hcs
    simp at hlen
    refine ⟨some a, len, cap, fun i => zs.getD i 0, rfl, hl, hm, fun h0 => ?_, fun h => by cases h⟩
    have hc0 := hi 0 (by omega)
    have hb := World.block_lt_of_cell? w _ hc0
    obtain ⟨ab, ao, sq⟩ := a
    have hs : sq = none := by
      simp [Addr.add] at hc0
      cases sq with
      | none => rfl
      | some s => simp [World.cell?] at hc0; split at hc0 <;> simp at hc0
    subst hs
    refine ⟨ab, ao, rfl, hb, fun i hin j u hu => ?_⟩
    have hci := hi i (by omega)
    rw [Addr.add_mid] at hci
    match j, hu with
    | 0, hu =>
      simp at hu
      subst hu
      simpa using hci
    | j + 1, hu => simp at hu

end Go.Proofs.YtaebebpldkciiaaGreatDoor
