/- Opening an argument: a slice of structs. -/
import Derived.Test.YtlkdjnmehnibmaaOpen
import Derived.Test.YtlkdjnmehnibmaaMore
namespace Go.Proofs.Ytlkdjnmehnibmaa
open Go.RowKit Go.ChangeShapes Go.WideShapes Go.Deep

def rowPt (x : Int × Int) : List Value := [.int .i64 x.1, .int .i64 x.2]
def wfPt (x : Int × Int) : Prop := (-9223372036854775808 ≤ x.1 ∧ x.1 ≤ 9223372036854775807) ∧ (-9223372036854775808 ≤ x.2 ∧ x.2 ≤ 9223372036854775807)
theorem cellsOfPt : Try.prog.cellsOf 23 = 2 := by kernel_rfl

section
variable {H : Type} {enc : TypeId × Value → H} {w : World} {b0 : Nat} {r : Reach} {v : Value} {d : DataW H} {p : List MemPlace}
set_option maxRecDepth 100000 in
theorem openPt (hv : Value.okWide Try.prog w r b0 34 v) (h : DataW.Trod enc Try.prog w 0 (fun _ => true) true 34 v d p) :
    ∃ (A : Option Addr) (n c : Nat) (f : Nat → Int × Int), v = .slice A n c ∧ n ≤ c ∧ c ≤ maxLen ∧ Sl w w.heap.size 2 A c (fun i => rowPt (f i)) ∧ (∀ i, i < c → wfPt (f i)) ∧ (A = none → n = 0 ∧ c = 0) ∧ (c = 0 ∨ ∃ elems spr, d = .slice elems spr ∧ elems.length + spr.length = c) := by
  obtain ⟨A, n, c, rfl, hn, hc, hnil, hd, hrow⟩ := open_rows Try.underlying34 Try.underlying23 (by kernel_rfl) cellsOfPt hv h
  cases A with
  | none =>
    obtain ⟨rfl, rfl⟩ := hnil rfl
    exact ⟨none, 0, 0, fun _ => (0, 0), rfl, Nat.le_refl _, hc, Sl.none_, fun i hi => absurd hi (by omega), fun _ => ⟨rfl, rfl⟩, hd⟩
  | some a =>
    have hex : ∀ i, ∃ x : Int × Int, i < c → w.rangeAt a.block (a.off + i * 2) (rowPt x) ∧ a.spot = none ∧ a.block < w.heap.size ∧ wfPt x := by
      intro i
      by_cases hi : i < c
      · obtain ⟨u0, y0, m0, c0, hs, hb, t0⟩ := hrow a rfl i hi 0 _ rfl
        obtain ⟨u1, y1, m1, c1, _, _, t1⟩ := hrow a rfl i hi 1 _ rfl
        obtain ⟨q0, e0, _, f0⟩ := DataW.trod_int Try.underlying3 t0
        obtain ⟨q1, e1, _, f1⟩ := DataW.trod_int Try.underlying3 t1
        simp at e0 e1
        subst e0 e1
        refine ⟨(q0, q1), fun _ => ⟨fun j u hj => ?_, hs, hb, ⟨i64_bounds f0, i64_bounds f1⟩⟩⟩
        match j, hj with
        | 0, hj => have hj : some _ = some u := hj; cases hj; exact c0
        | 1, hj => have hj : some _ = some u := hj; cases hj; exact c1
      · exact ⟨(0, 0), fun h => absurd h hi⟩
    refine ⟨some a, n, c, fun i => (hex i).choose, rfl, hn, hc, fun h0 => ?_, fun i hi => ((hex i).choose_spec hi).2.2.2, (fun h => by cases h), hd⟩
    obtain ⟨ab, ao, sq⟩ := a
    obtain ⟨_, hs, hb, _⟩ := (hex 0).choose_spec h0
    have hs : sq = none := hs
    subst hs
    exact ⟨ab, ao, rfl, hb, fun i hi => ((hex i).choose_spec hi).1⟩
end
end Go.Proofs.Ytlkdjnmehnibmaa
