/- Opening an argument: a slice of structs. -/
import Derived.Test.YtjmdebeffpdpcaaGreatDoorOpen
import Derived.Test.YtjmdebeffpdpcaaGreatDoorMore
namespace Go.Proofs.YtjmdebeffpdpcaaGreatDoor
open Go.RowKit Go.ChangeShapes Go.WideShapes Go.Deep

def rowEn (x : Int × Int × ByteArray × ByteArray) : List Value := [.int .i64 x.1, .int .i64 x.2.1, .string x.2.2.1, .string x.2.2.2]
def wfEn (x : Int × Int × ByteArray × ByteArray) : Prop := x.2.2.1.size ≤ maxLen ∧ x.2.2.2.size ≤ maxLen ∧ (-9223372036854775808 ≤ x.1 ∧ x.1 ≤ 9223372036854775807) ∧ (-9223372036854775808 ≤ x.2.1 ∧ x.2.1 ≤ 9223372036854775807)
theorem cellsOfEn : Tryz.prog.cellsOf 48 = 4 := by kernel_rfl

section
variable {H : Type} {enc : TypeId × Value → H} {w : World} {b0 : Nat} {r : Reach} {v : Value} {d : DataW H} {p : List MemPlace}
set_option maxRecDepth 100000 in
theorem openEn (hv : Value.okWide Tryz.prog w r b0 22 v) (h : DataW.Trod enc Tryz.prog w 0 (fun _ => true) true 22 v d p) :
    ∃ (A : Option Addr) (n c : Nat) (f : Nat → Int × Int × ByteArray × ByteArray), v = .slice A n c ∧ n ≤ c ∧ c ≤ maxLen ∧ Sl w w.heap.size 4 A c (fun i => rowEn (f i)) ∧ (∀ i, i < c → wfEn (f i)) ∧ (A = none → n = 0 ∧ c = 0) ∧ (c = 0 ∨ ∃ elems spr, d = .slice elems spr ∧ elems.length + spr.length = c) := by
  obtain ⟨A, n, c, rfl, hn, hc, hnil, hd, hrow⟩ := open_rows Tryz.underlying22 Tryz.underlying48 (by kernel_rfl) cellsOfEn hv h
  cases A with
  | none =>
    obtain ⟨rfl, rfl⟩ := hnil rfl
    exact ⟨none, 0, 0, fun _ => (0, 0, ByteArray.empty, ByteArray.empty), rfl, Nat.le_refl _, hc, Sl.none_, fun i hi => absurd hi (by omega), fun _ => ⟨rfl, rfl⟩, hd⟩
  | some a =>
    have hex : ∀ i, ∃ x : Int × Int × ByteArray × ByteArray, i < c → w.rangeAt a.block (a.off + i * 4) (rowEn x) ∧ a.spot = none ∧ a.block < w.heap.size ∧ wfEn x := by
      intro i
      by_cases hi : i < c
      · obtain ⟨u0, y0, m0, c0, hs, hb, t0⟩ := hrow a rfl i hi 0 _ rfl
        obtain ⟨u1, y1, m1, c1, _, _, t1⟩ := hrow a rfl i hi 1 _ rfl
        obtain ⟨u2, y2, m2, c2, _, _, t2⟩ := hrow a rfl i hi 2 _ rfl
        obtain ⟨u3, y3, m3, c3, _, _, t3⟩ := hrow a rfl i hi 3 _ rfl
        obtain ⟨q0, e0, _, f0⟩ := DataW.trod_int Tryz.underlying3 t0
        obtain ⟨q1, e1, _, f1⟩ := DataW.trod_int Tryz.underlying3 t1
        obtain ⟨q2, e2, _, f2⟩ := DataW.trod_string Tryz.underlying9 t2
        obtain ⟨q3, e3, _, f3⟩ := DataW.trod_string Tryz.underlying9 t3
        simp at e0 e1 e2 e3
        subst e0 e1 e2 e3
        refine ⟨(q0, q1, q2, q3), fun _ => ⟨fun j u hj => ?_, hs, hb, ⟨f2, f3, i64_bounds f0, i64_bounds f1⟩⟩⟩
        match j, hj with
        | 0, hj => have hj : some _ = some u := hj; cases hj; exact c0
        | 1, hj => have hj : some _ = some u := hj; cases hj; exact c1
        | 2, hj => have hj : some _ = some u := hj; cases hj; exact c2
        | 3, hj => have hj : some _ = some u := hj; cases hj; exact c3
      · exact ⟨(0, 0, ByteArray.empty, ByteArray.empty), fun h => absurd h hi⟩
    refine ⟨some a, n, c, fun i => (hex i).choose, rfl, hn, hc, fun h0 => ?_, fun i hi => ((hex i).choose_spec hi).2.2.2, (fun h => by cases h), hd⟩
    obtain ⟨ab, ao, sq⟩ := a
    obtain ⟨_, hs, hb, _⟩ := (hex 0).choose_spec h0
    have hs : sq = none := hs
    subst hs
    exact ⟨ab, ao, rfl, hb, fun i hi => ((hex i).choose_spec hi).1⟩
end
end Go.Proofs.YtjmdebeffpdpcaaGreatDoor
