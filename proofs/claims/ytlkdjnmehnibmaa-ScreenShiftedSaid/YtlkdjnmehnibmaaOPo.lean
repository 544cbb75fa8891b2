/- Package screen: polygons handed in, opened. -/
import Derived.Test.YtlkdjnmehnibmaaOPt
import Derived.Test.YtlkdjnmehnibmaaG5
namespace Go.Proofs.Ytlkdjnmehnibmaa
open Go.RowKit Go.ChangeShapes Go.WideShapes Go.Deep

theorem cellsOf36 : Try.prog.cellsOf 36 = 1 := by kernel_rfl
theorem cell_at {w : World} {a : Addr} {k : Nat} {u : Value} (hs : a.spot = none) (h : w.cell? (a.add k) = some u) : w.cell? ⟨a.block, a.off + k, none⟩ = some u ∧ a.block < w.heap.size := by
  obtain ⟨ab, ao, sq⟩ := a
  have hs : sq = none := hs
  subst hs
  rw [Addr.add_mid] at h
  exact ⟨h, by have hh := World.block_lt_of_cell? w _ h; exact hh⟩
theorem spot_none {w : World} {a : Addr} {u : Value} (h : w.cell? (a.add 0) = some u) : a.spot = none := by
  obtain ⟨ab, ao, sq⟩ := a
  cases sq with
  | none => rfl
  | some s =>
    simp [Addr.add] at h
    simp [World.cell?] at h
    split at h <;> simp at h

section
variable {H : Type} {enc : TypeId × Value → H} {w : World} {b0 : Nat} {r : Reach} {v : Value} {d : DataW H} {p : List MemPlace}
set_option maxRecDepth 100000 in
theorem open_poly {n : Nat} {cs : List Value} {x : DataW H × List MemPlace} (h : DataW.trod enc Try.prog w 0 (fun _ => true) true n 36 cs = some x) :
    ∃ (P : Option Addr) (N C : Nat) (F : Nat → Int × Int), cs = [.slice P N C] ∧ N ≤ C ∧ C ≤ maxLen ∧ Sl w w.heap.size 2 P N (ptRow F) := by
  rcases open_slice_fields Try.underlying36 Try.underlying23 (by kernel_rfl) (by kernel_rfl) h with ⟨hcs, _⟩ | ⟨a, len, cap, m, D, Pl, hcs, _, hl, hm, hmm, _, hi⟩
  · exact ⟨none, 0, 0, fun _ => (0, 0), hcs, Nat.le_refl _, by decide, Sl.none_⟩
  · simp at hmm
    have hex : ∀ i, ∃ x : Int × Int, i < cap → w.rangeAt a.block (a.off + i * 2) [.int .i64 x.1, .int .i64 x.2] ∧ a.spot = none ∧ a.block < w.heap.size := by
      intro i
      by_cases hic : i < cap
      · obtain ⟨ys, nn, _, _, _, hf⟩ := hi i (by omega)
        obtain ⟨u0, y0, c0, _, t0⟩ := hf 0 _ rfl
        obtain ⟨u1, y1, c1, _, t1⟩ := hf 1 _ rfl
        obtain ⟨q0, e0, _, _⟩ := DataW.trod_int Try.underlying3 t0
        obtain ⟨q1, e1, _, _⟩ := DataW.trod_int Try.underlying3 t1
        simp at e0 e1
        subst e0 e1
        have hs : a.spot = none := by
          obtain ⟨_, _, _, _, _, hf0⟩ := hi 0 (by omega)
          obtain ⟨_, _, c, _, _⟩ := hf0 0 _ rfl
          exact spot_none c
        obtain ⟨g0, hb⟩ := cell_at hs c0
        obtain ⟨g1, _⟩ := cell_at hs c1
        refine ⟨(q0, q1), fun _ => ⟨fun j u hj => ?_, hs, hb⟩⟩
        match j, hj with
        | 0, hj => have hj : some _ = some u := hj; cases hj; exact g0
        | 1, hj => have hj : some _ = some u := hj; cases hj; exact g1
      · exact ⟨(0, 0), fun h => absurd h hic⟩
    refine ⟨some a, len, cap, fun i => (hex i).choose, hcs, hl, hm, fun h0 => ?_⟩
    obtain ⟨ab, ao, sq⟩ := a
    obtain ⟨_, hs, hb⟩ := (hex 0).choose_spec (by omega)
    have hs : sq = none := hs
    subst hs
    exact ⟨ab, ao, rfl, hb, fun i hi => ((hex i).choose_spec (by omega)).1⟩

set_option maxRecDepth 100000 in
theorem open_polys (hv : Value.okWide Try.prog w r b0 33 v) (h : DataW.Trod enc Try.prog w 0 (fun _ => true) true 33 v d p) :
    ∃ (A : Option Addr) (n c : Nat) (N : Nat → Nat) (F : Nat → Nat → Int × Int), v = .slice A n c ∧ n ≤ c ∧ c ≤ maxLen ∧
      ∃ (P : Nat → Option Addr) (C : Nat → Nat), Sl w w.heap.size 1 A n (fun i => [.slice (P i) (N i) (C i)]) ∧ ∀ i, i < n → (Sl w w.heap.size 2 (P i) (N i) (ptRow (F i)) ∧ N i ≤ C i ∧ C i ≤ maxLen) := by
  obtain ⟨a0, len0, cap0, rfl⟩ := okWide_slice Try.underlying33 hv
  obtain ⟨fuel, hf⟩ := h
  rcases open_slice Try.underlying33 hf with ⟨hcs, _⟩ | ⟨a, len, cap, m, n, D, Pl, hcs, _, hl, hm, hmm, _, hi⟩
  · simp [Value.cells] at hcs
    obtain ⟨rfl, rfl, rfl⟩ := hcs
    exact ⟨none, 0, 0, fun _ => 0, fun _ _ => (0, 0), rfl, Nat.le_refl _, by decide, fun _ => none, fun _ => 0, Sl.none_, fun i hi => absurd hi (by omega)⟩
  · simp [Value.cells] at hcs
    obtain ⟨rfl, rfl, rfl⟩ := hcs
    simp at hmm
    have hex : ∀ i, ∃ (P : Option Addr) (N C : Nat) (F : Nat → Int × Int), i < cap0 → (w.cell? ⟨a.block, a.off + i, none⟩ = some (.slice P N C) ∧ a.spot = none ∧ a.block < w.heap.size) ∧ N ≤ C ∧ C ≤ maxLen ∧ Sl w w.heap.size 2 P N (ptRow F) := by
      intro i
      by_cases hic : i < cap0
      · obtain ⟨cs', hc, ht⟩ := hi i (by omega)
        obtain ⟨P, N, C, F, rfl, h1, h2, h3⟩ := open_poly ht
        rw [cellsOf36, Nat.mul_one] at hc
        obtain ⟨_, _, hat⟩ := World.cells?_some hc
        have h0 := hat 0 (by decide)
        rw [Go.Deep.add_add] at h0
        have hs : a.spot = none := by
          obtain ⟨cs0, hc0, _⟩ := hi 0 (by omega)
          rw [cellsOf36, Nat.mul_one] at hc0
          obtain ⟨_, hl0, hat0⟩ := World.cells?_some hc0
          have h00 := hat0 0 (by decide)
          rw [Go.Deep.add_add] at h00
          cases hcs : cs0[0]? with
          | none => rw [List.getElem?_eq_none_iff] at hcs; omega
          | some u => rw [hcs] at h00; exact spot_none h00
        obtain ⟨hg, hb⟩ := cell_at hs (h0.trans (rfl : _ = some (Value.slice P N C)))
        exact ⟨P, N, C, F, fun _ => ⟨⟨hg, hs, hb⟩, h1, h2, h3⟩⟩
      · exact ⟨none, 0, 0, fun _ => (0, 0), fun h => absurd h hic⟩
    refine ⟨some a, len0, cap0, fun i => (hex i).choose_spec.choose, fun i => (hex i).choose_spec.choose_spec.choose_spec.choose, rfl, hl, hm, fun i => (hex i).choose, fun i => (hex i).choose_spec.choose_spec.choose, fun h0 => ?_, fun i hi => ?_⟩
    · obtain ⟨ab, ao, sq⟩ := a
      obtain ⟨⟨_, hs, hb⟩, _⟩ := (hex 0).choose_spec.choose_spec.choose_spec.choose_spec (by omega)
      have hs : sq = none := hs
      subst hs
      refine ⟨ab, ao, rfl, hb, fun i hi j u hj => ?_⟩
      have h1 := ((hex i).choose_spec.choose_spec.choose_spec.choose_spec (by omega)).1.1
      match j, hj with
      | 0, hj => have hj : some _ = some u := hj; cases hj; rw [Nat.mul_one]; exact h1
    · obtain ⟨_, h1, h2, h3⟩ := (hex i).choose_spec.choose_spec.choose_spec.choose_spec (by omega)
      exact ⟨h3, h1, h2⟩
end
end Go.Proofs.Ytlkdjnmehnibmaa
