/- Opening a slice of events. -/
import Derived.Test.YtchpgknaaofapaaOpen
import Derived.Test.YtchpgknaaofapaaA1
namespace Go.Proofs.Ytchpgknaaofapaa
open Go.RowKit Go.ChangeShapes Go.WideShapes Go.Deep

theorem cells34 : Try.prog.cellsOf 34 = 3 := by kernel_rfl

theorem open_evs {H : Type} {enc : TypeId × Value → H} {w : World} {b0 : Nat} {r : Reach} {v : Value} {d : DataW H} {p : List MemPlace} (hv : Value.okWide Try.prog w r b0 22 v) (h : DataW.Trod enc Try.prog w 0 (fun _ => true) true 22 v d p) :
    ∃ (A : Option Addr) (n c : Nat) (lf : List Ev), v = .slice A n c ∧ n ≤ c ∧ c ≤ maxLen ∧ lf.length = n ∧ EvsAt w w.heap.size A lf ∧ (A = none → n = 0 ∧ c = 0) := by
  obtain ⟨A, n, c, rfl, hn, hc, hnil, hd, hrow⟩ := open_rows Try.underlying22 Try.underlying34 (by kernel_rfl) cells34 hv h
  cases A with
  | none =>
    obtain ⟨rfl, rfl⟩ := hnil rfl
    exact ⟨none, 0, 0, [], rfl, Nat.le_refl _, hc, rfl, Sl.none_, fun _ => ⟨rfl, rfl⟩⟩
  | some a =>
    have hex : ∀ i, ∃ x : Ev, i < c → w.rangeAt a.block (a.off + i * 3) (evV x) ∧ a.spot = none ∧ a.block < w.heap.size := by
      intro i
      by_cases hi : i < c
      · obtain ⟨u0, y0, m0, c0, hs, hb, t0⟩ := hrow a rfl i hi 0 _ rfl
        obtain ⟨u1, y1, m1, c1, _, _, t1⟩ := hrow a rfl i hi 1 _ rfl
        obtain ⟨u2, y2, m2, c2, _, _, t2⟩ := hrow a rfl i hi 2 _ rfl
        obtain ⟨q0, e0, _⟩ := DataW.trod_int Try.underlying3 t0
        obtain ⟨q1, e1, _⟩ := DataW.trod_int Try.underlying3 t1
        obtain ⟨q2, e2, _⟩ := DataW.trod_int Try.underlying3 t2
        simp at e0 e1 e2
        subst e0 e1 e2
        refine ⟨(q0, q1, q2), fun _ => ⟨fun j u hj => ?_, hs, hb⟩⟩
        match j, hj with
        | 0, hj => have hj : some _ = some u := hj; cases hj; exact c0
        | 1, hj => have hj : some _ = some u := hj; cases hj; exact c1
        | 2, hj => have hj : some _ = some u := hj; cases hj; exact c2
      · exact ⟨(0, 0, 0), fun h => absurd h hi⟩
    refine ⟨some a, n, c, (List.range n).map fun i => (hex i).choose, rfl, hn, hc, by simp, fun h0 => ?_, (fun h => by cases h)⟩
    simp only [List.length_map, List.length_range] at h0
    obtain ⟨ab, ao, sq⟩ := a
    obtain ⟨_, hs, hb⟩ := (hex 0).choose_spec (by omega)
    have hs : sq = none := hs
    subst hs
    refine ⟨ab, ao, rfl, hb, fun i hi => ?_⟩
    simp only [List.length_map, List.length_range] at hi
    have e : ((List.range n).map fun i => (hex i).choose)[i]! = (hex i).choose := by
      rw [getElem!_pos _ i (by simpa using hi)]
      simp
    show w.rangeAt ab (ao + i * 3) (evV (((List.range n).map fun i => (hex i).choose)[i]!))
    rw [e]
    exact ((hex i).choose_spec (by omega)).1
end Go.Proofs.Ytchpgknaaofapaa
