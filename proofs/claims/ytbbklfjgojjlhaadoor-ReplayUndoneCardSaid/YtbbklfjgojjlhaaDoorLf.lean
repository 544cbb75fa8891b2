/- What the listed variables give. -/
import Derived.Test.YtbbklfjgojjlhaaDoorLawD
import Derived.Test.YtbbklfjgojjlhaaDoorTie
import Derived.Test.YtbbklfjgojjlhaaDoorCards
import Derived.Stop.LaidErr
import Derived.Lib.LaidTab
import Derived.OpenShut
import Derived.ChangeMaps5
import Derived.Carry
import Derived.Lay
import Derived.Shelf.Vars
import Derived.Lib.SmallJoins
import Derived.Test.YtbbklfjgojjlhaaDoorRA1
import Derived.Test.YtbbklfjgojjlhaaDoorOpen
import Derived.Test.YtbbklfjgojjlhaaDoorORw
import Derived.Test.YtbbklfjgojjlhaaDoorK2
namespace Go.Proofs.YtbbklfjgojjlhaaDoor
open Go.ChangeShapes Go.WideShapes Go.ChangeAt Go.RowKit Go.ChangeMaps

abbrev laid7 : List (String × DataW Unit) := [("math/bits.deBruijn32tab", Rows.laid_math_bits_deBruijn32tab), ("math/bits.deBruijn64tab", Rows.laid_math_bits_deBruijn64tab), ("internal/strconv.uint64pow10", Rows.laid_internal_strconv_uint64pow10), ("unicode/utf8.acceptRanges", Rows.laid_unicode_utf8_acceptRanges), ("strconv.ErrRange", Rows.laid_strconv_ErrRange), ("strconv.ErrSyntax", Rows.laid_strconv_ErrSyntax), ("unicode/utf8.first", Rows.laid_unicode_utf8_first)]

set_option maxRecDepth 100000 in
theorem door_met (os : Os) (args : Array Value) : laidMetH Tryd.prog laid7 ((World.laidAll Tryd.prog os laid7).forCall (fun _ _ => 0) ⟨#[], args, []⟩).memory := by
  rw [MakeChecks.laidMetH_plain _ _ _ (by kernel_rfl)]
  exact laidMet_laidAll _ (by kernel_rfl) (by kernel_rfl)

theorem star : "*" ++ "errors.errorString" = "*errors.errorString" := by decide
theorem row119 (u : TypeId) (h : Tryd.prog.typeName? 3 u = some "*errors.errorString") : u = 119 :=
  typeName_ptr_named (nm := "errors.errorString") (by rw [star]; kernel_rfl) (by kernel_rfl) (by decide) u (by rw [star]; exact h)

set_option maxRecDepth 100000 in
theorem env_of {W : World} (h : laidMetH Tryd.prog laid7 W) (hsh : W.ShapedOpen Tryd.prog) : Env W := by
  rw [MakeChecks.laidMetH_plain _ _ _ (by kernel_rfl)] at h
  refine ⟨?_, ?_, ?_, ?_⟩
  · exact Lib.tabIs_of_head (t := 113) (e := 95) (n := 20) gPow (by kernel_rfl) Tryd.underlying113 Tryd.underlying95 (by kernel_rfl) (by kernel_rfl) h.tail.tail
  · obtain ⟨a, s, hv, _⟩ := laid_sentinel (g := 3) (ti := 72) (tp := 119) (te := 121) (ts := 9) h.tail.tail.tail.tail.tail gSyn (by kernel_rfl) Tryd.underlying72 row119 Tryd.underlying119 Tryd.underlying121 rfl rfl Tryd.underlying9 (by kernel_rfl) (by kernel_rfl)
    exact ⟨_, _, hv⟩
  · obtain ⟨a, s, hv, _⟩ := laid_sentinel (g := 4) (ti := 72) (tp := 119) (te := 121) (ts := 9) h.tail.tail.tail.tail gRng (by kernel_rfl) Tryd.underlying72 row119 Tryd.underlying119 Tryd.underlying121 rfl rfl Tryd.underlying9 (by kernel_rfl) (by kernel_rfl)
    exact ⟨_, _, hv⟩
  · exact cell_of_shapedOpen_int (g := 0) (t := 3) (zero := #[.int .i64 0]) hsh (of_decide_eq_true (by kernel_rfl)) (by kernel_rfl) (by kernel_rfl) (by kernel_rfl) (by kernel_rfl) Tryd.underlying3

/-- A state handed in. -/
theorem stAt_of {W : World} {A : Option Addr} {n c : Nat} {f : Nat → ByteArray × ByteArray} (hn : n ≤ c) (hc : c ≤ maxLen) (hsl : Sl W W.heap.size 2 A c (fun i => rowRw (f i))) (hwf : ∀ i, i < c → wfRw (f i)) (hnil : A = none → n = 0 ∧ c = 0) :
    ∃ l, StAt l A n W := by
  refine ⟨(List.range n).map f, (hsl.less hn).congr fun i hi => ?_, by simp, fun x hx => ?_, by omega, fun h => (hnil h).1⟩
  · have : ((List.range n).map f)[i]! = f i := by simp [hi]
    rw [this]; rfl
  · obtain ⟨i, hi, rfl⟩ := List.mem_map.1 hx
    exact hwf i (by have := List.mem_range.1 hi; omega)
end Go.Proofs.YtbbklfjgojjlhaaDoor
