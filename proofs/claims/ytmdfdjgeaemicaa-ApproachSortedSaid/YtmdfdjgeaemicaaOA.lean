/- Opening arrivals and gaps. -/
import Derived.Test.YtmdfdjgeaemicaaOpen
import Derived.Test.YtmdfdjgeaemicaaA1
import Derived.Test.YtmdfdjgeaemicaaB3
namespace Go.Proofs.Ytmdfdjgeaemicaa
open Go.RowKit Go.ChangeShapes Go.WideShapes Go.Deep

theorem cells32 : Try.prog.cellsOf 32 = 4 := by kernel_rfl
theorem cells24 : Try.prog.cellsOf 24 = 16 := by kernel_rfl
theorem cells23 : Try.prog.cellsOf 23 = 4 := by kernel_rfl
theorem cells3 : Try.prog.cellsOf 3 = 1 := by kernel_rfl

section
variable {H : Type} {enc : TypeId × Value → H} {w : World} {b0 : Nat} {r : Reach} {v : Value} {d : DataW H} {p : List MemPlace}

theorem open_items (hv : Value.okWide Try.prog w r b0 22 v) (h : DataW.Trod enc Try.prog w 0 (fun _ => true) true 22 v d p) :
    ∃ (A : Option Addr) (n c : Nat) (its : Nat → It), v = .slice A n c ∧ n ≤ c ∧ c ≤ maxLen ∧ Sl w w.heap.size 4 A c (fun i => (its i).row) ∧ (∀ i, i < c → Wf (its i)) ∧ (A = none → n = 0) ∧ (c = 0 ∨ ∃ elems spr, d = .slice elems spr ∧ elems.length + spr.length = c) := by
  obtain ⟨A, n, c, rfl, hn, hc, hnil, hd, hrow⟩ := open_rows Try.underlying22 Try.underlying32 (by kernel_rfl) cells32 hv h
  cases A with
  | none =>
    obtain ⟨rfl, rfl⟩ := hnil rfl
    exact ⟨none, 0, 0, fun _ => ⟨ByteArray.empty, 0, 0, 0⟩, rfl, Nat.le_refl _, hc, Sl.none_, fun i hi => absurd hi (by omega), fun _ => rfl, hd⟩
  | some a =>
    have hex : ∀ i, ∃ x : It, i < c → w.rangeAt a.block (a.off + i * 4) x.row ∧ a.spot = none ∧ a.block < w.heap.size ∧ Wf x := by
      intro i
      by_cases hi : i < c
      · obtain ⟨u0, y0, m0, c0, hs, hb, t0⟩ := hrow a rfl i hi 0 _ rfl
        obtain ⟨u1, y1, m1, c1, _, _, t1⟩ := hrow a rfl i hi 1 _ rfl
        obtain ⟨u2, y2, m2, c2, _, _, t2⟩ := hrow a rfl i hi 2 _ rfl
        obtain ⟨u3, y3, m3, c3, _, _, t3⟩ := hrow a rfl i hi 3 _ rfl
        obtain ⟨q0, e0, _⟩ := DataW.trod_string Try.underlying9 t0
        obtain ⟨q1, e1, _⟩ := DataW.trod_int Try.underlying3 t1
        obtain ⟨q2, e2, _, f2⟩ := DataW.trod_int Try.underlying3 t2
        obtain ⟨q3, e3, _, f3⟩ := DataW.trod_int Try.underlying3 t3
        simp at e0 e1 e2 e3
        subst e0 e1 e2 e3
        refine ⟨⟨q0, q1, q2, q3⟩, fun _ => ⟨fun j u hj => ?_, hs, hb, ⟨(i64_bounds f2).1, (i64_bounds f3).1⟩⟩⟩
        match j, hj with
        | 0, hj => have hj : some _ = some u := hj; cases hj; exact c0
        | 1, hj => have hj : some _ = some u := hj; cases hj; exact c1
        | 2, hj => have hj : some _ = some u := hj; cases hj; exact c2
        | 3, hj => have hj : some _ = some u := hj; cases hj; exact c3
      · exact ⟨⟨ByteArray.empty, 0, 0, 0⟩, fun h => absurd h hi⟩
    refine ⟨some a, n, c, fun i => (hex i).choose, rfl, hn, hc, fun h0 => ?_, fun i hi => ((hex i).choose_spec hi).2.2.2, (fun h => by cases h), hd⟩
    obtain ⟨ab, ao, sq⟩ := a
    obtain ⟨_, hs, hb, _⟩ := (hex 0).choose_spec h0
    have hs : sq = none := hs
    subst hs
    exact ⟨ab, ao, rfl, hb, fun i hi => ((hex i).choose_spec hi).1⟩

theorem open_gaps (hv : Value.okWide Try.prog w r b0 24 v) (h : DataW.Trod enc Try.prog w 0 (fun _ => true) true 24 v d p) :
    ∃ (G : Array Value) (g : Nat → Int), v = .agg G ∧ Gaps G g := by
  obtain ⟨G, rfl, hsz⟩ : ∃ cs, v = .agg cs ∧ cs.size = Try.prog.cellsOf 24 := by
    simp only [Value.okWide, Try.underlying24] at hv
    obtain ⟨cs, h1, h2, _⟩ := hv
    exact ⟨cs, h1, h2⟩
  rw [cells24] at hsz
  obtain ⟨fuel, hf⟩ := h
  obtain ⟨xs, m, _, _, _, hlen, hx⟩ := DataW.trod_array Try.underlying24 hf
  have hc : ∀ i, i < 16 → ∃ q : Int, G[i]? = some (.int .i64 q) := by
    intro i hi
    have h1 := hx (i / 4) (by omega)
    rw [List.getElem?_eq_getElem (by omega)] at h1
    obtain ⟨ys, m', _, _, _, hlen', hy⟩ := DataW.trod_array Try.underlying23 h1
    have h2 := hy (i % 4) (by omega)
    rw [List.getElem?_eq_getElem (by omega)] at h2
    obtain ⟨q, e, _⟩ := DataW.trod_int Try.underlying3 h2
    rw [cells23, cells3] at e
    refine ⟨q, ?_⟩
    have e' := congrArg (·[0]?) e
    simp only [Value.cells, List.getElem?_take, List.getElem?_drop, List.getElem?_cons_zero] at e'
    rw [if_pos (by omega), if_pos (by omega)] at e'
    rw [show i / 4 * 4 + (i % 4 * 1 + 0) = i by omega] at e'
    simpa using e'
  refine ⟨G, fun i => if h : i < 16 then (hc i h).choose else 0, rfl, hsz, fun i hi => ?_⟩
  show _ = some (Value.int .i64 (if h : i < 16 then (hc i h).choose else 0))
  rw [dif_pos hi]; exact (hc i hi).choose_spec

end
end Go.Proofs.Ytmdfdjgeaemicaa
