/- Package screen: a cell handed in, opened. -/
import Derived.Test.YtlkdjnmehnibmaaOV
namespace Go.Proofs.Ytlkdjnmehnibmaa
open Go.ChangeShapes Go.WideShapes Go.ChangeAt Go.RowKit Go.Joins

theorem cells27 : Try.prog.cellsOf 27 = 2 := by kernel_rfl
theorem open_c {H : Type} {enc : TypeId × Value → H} {W : World} {base b0 : Nat} {sp : Nat → Bool} {hd : Bool} {r : Reach} {v : Value} {d : DataW H} {p : List MemPlace}
    (hv : Value.okWide Try.prog W r base 27 v) (h : DataW.Trod enc Try.prog W b0 sp hd 27 v d p) : ∃ x y : Int, v = .agg #[.int .i64 x, .int .i64 y] := by
  obtain ⟨v0, v1, y0, y1, n, rfl, rfl, rfl, h0, h1⟩ := open_agg2 Try.underlying27 (by kernel_rfl) cells27 hv h
  obtain ⟨a, e0, _, _⟩ := DataW.trod_int Try.underlying3 h0
  obtain ⟨b, e1, _, _⟩ := DataW.trod_int Try.underlying3 h1
  simp at e0 e1
  subst e0 e1
  exact ⟨a, b, rfl⟩
end Go.Proofs.Ytlkdjnmehnibmaa
