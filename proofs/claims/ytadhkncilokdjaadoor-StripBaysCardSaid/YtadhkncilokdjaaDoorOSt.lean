/- Opening an argument: a slice of structs. -/
import Derived.Test.YtadhkncilokdjaaDoorOpen
import Derived.Test.YtadhkncilokdjaaDoorMore
namespace Go.Proofs.YtadhkncilokdjaaDoor
open Go.RowKit Go.ChangeShapes Go.WideShapes Go.Deep

def rowSt (x : ByteArray × ByteArray × Int × Int × Int) : List Value := [.string x.1, .string x.2.1, .int .i64 x.2.2.1, .int .i64 x.2.2.2.1, .int .i64 x.2.2.2.2]
def wfSt (x : ByteArray × ByteArray × Int × Int × Int) : Prop := x.1.size ≤ maxLen ∧ x.2.1.size ≤ maxLen ∧ (-9223372036854775808 ≤ x.2.2.1 ∧ x.2.2.1 ≤ 9223372036854775807) ∧ (-9223372036854775808 ≤ x.2.2.2.1 ∧ x.2.2.2.1 ≤ 9223372036854775807) ∧ (-9223372036854775808 ≤ x.2.2.2.2 ∧ x.2.2.2.2 ≤ 9223372036854775807)
theorem cellsOfSt : Tryd.prog.cellsOf 24 = 5 := by kernel_rfl

section
variable {H : Type} {enc : TypeId × Value → H} {w : World} {b0 : Nat} {r : Reach} {v : Value} {d : DataW H} {p : List MemPlace}
set_option maxRecDepth 100000 in
theorem openSt (hv : Value.okWide Tryd.prog w r b0 22 v) (h : DataW.Trod enc Tryd.prog w 0 (fun _ => true) true 22 v d p) :
    ∃ (A : Option Addr) (n c : Nat) (f : Nat → ByteArray × ByteArray × Int × Int × Int), v = .slice A n c ∧ n ≤ c ∧ c ≤ maxLen ∧ Sl w w.heap.size 5 A c (fun i => rowSt (f i)) ∧ (∀ i, i < c → wfSt (f i)) ∧ (A = none → n = 0 ∧ c = 0) ∧ (c = 0 ∨ ∃ elems spr, d = .slice elems spr ∧ elems.length + spr.length = c) := by
  obtain ⟨A, n, c, rfl, hn, hc, hnil, hd, hrow⟩ := open_rows Tryd.underlying22 Tryd.underlying24 (by kernel_rfl) cellsOfSt hv h
  cases A with
  | none =>
    obtain ⟨rfl, rfl⟩ := hnil rfl
    exact ⟨none, 0, 0, fun _ => (ByteArray.empty, ByteArray.empty, 0, 0, 0), rfl, Nat.le_refl _, hc, Sl.none_, fun i hi => absurd hi (by omega), fun _ => ⟨rfl, rfl⟩, hd⟩
  | some a =>
    have hex : ∀ i, ∃ x : ByteArray × ByteArray × Int × Int × Int, i < c → w.rangeAt a.block (a.off + i * 5) (rowSt x) ∧ a.spot = none ∧ a.block < w.heap.size ∧ wfSt x := by
      intro i
      by_cases hi : i < c
      · obtain ⟨u0, y0, m0, c0, hs, hb, t0⟩ := hrow a rfl i hi 0 _ rfl
        obtain ⟨u1, y1, m1, c1, _, _, t1⟩ := hrow a rfl i hi 1 _ rfl
        obtain ⟨u2, y2, m2, c2, _, _, t2⟩ := hrow a rfl i hi 2 _ rfl
        obtain ⟨u3, y3, m3, c3, _, _, t3⟩ := hrow a rfl i hi 3 _ rfl
        obtain ⟨u4, y4, m4, c4, _, _, t4⟩ := hrow a rfl i hi 4 _ rfl
        obtain ⟨q0, e0, _, f0⟩ := DataW.trod_string Tryd.underlying9 t0
        obtain ⟨q1, e1, _, f1⟩ := DataW.trod_string Tryd.underlying9 t1
        obtain ⟨q2, e2, _, f2⟩ := DataW.trod_int Tryd.underlying3 t2
        obtain ⟨q3, e3, _, f3⟩ := DataW.trod_int Tryd.underlying3 t3
        obtain ⟨q4, e4, _, f4⟩ := DataW.trod_int Tryd.underlying3 t4
        simp at e0 e1 e2 e3 e4
        subst e0 e1 e2 e3 e4
        refine ⟨(q0, q1, q2, q3, q4), fun _ => ⟨fun j u hj => ?_, hs, hb, ⟨f0, f1, i64_bounds f2, i64_bounds f3, i64_bounds f4⟩⟩⟩
        match j, hj with
        | 0, hj => have hj : some _ = some u := hj; cases hj; exact c0
        | 1, hj => have hj : some _ = some u := hj; cases hj; exact c1
        | 2, hj => have hj : some _ = some u := hj; cases hj; exact c2
        | 3, hj => have hj : some _ = some u := hj; cases hj; exact c3
        | 4, hj => have hj : some _ = some u := hj; cases hj; exact c4
      · exact ⟨(ByteArray.empty, ByteArray.empty, 0, 0, 0), fun h => absurd h hi⟩
    refine ⟨some a, n, c, fun i => (hex i).choose, rfl, hn, hc, fun h0 => ?_, fun i hi => ((hex i).choose_spec hi).2.2.2, (fun h => by cases h), hd⟩
    obtain ⟨ab, ao, sq⟩ := a
    obtain ⟨_, hs, hb, _⟩ := (hex 0).choose_spec h0
    have hs : sq = none := hs
    subst hs
    exact ⟨ab, ao, rfl, hb, fun i hi => ((hex i).choose_spec hi).1⟩
end
end Go.Proofs.YtadhkncilokdjaaDoor
