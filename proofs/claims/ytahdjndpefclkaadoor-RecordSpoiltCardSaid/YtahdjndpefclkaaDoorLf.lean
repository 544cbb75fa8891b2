/- What the listed variables give. -/
import Derived.Test.YtahdjndpefclkaaDoorLawD
import Derived.Test.YtahdjndpefclkaaDoorTie
import Derived.Test.YtahdjndpefclkaaDoorCards
import Derived.Stop.LaidErr
import Derived.Lib.LaidTab
import Derived.OpenShut
import Derived.ChangeMaps5
import Derived.Carry
import Derived.Lay
import Derived.Lib.SmallJoins
import Derived.Test.YtahdjndpefclkaaDoorA1
import Derived.Test.YtahdjndpefclkaaDoorOpen
namespace Go.Proofs.YtahdjndpefclkaaDoor
open Go.ChangeShapes Go.WideShapes Go.ChangeAt Go.RowKit Go.ChangeMaps

abbrev laid7 : List (String × DataW Unit) := [("math/bits.deBruijn32tab", Rows.laid_math_bits_deBruijn32tab), ("math/bits.deBruijn64tab", Rows.laid_math_bits_deBruijn64tab), ("internal/strconv.uint64pow10", Rows.laid_internal_strconv_uint64pow10), ("unicode/utf8.acceptRanges", Rows.laid_unicode_utf8_acceptRanges), ("strconv.ErrRange", Rows.laid_strconv_ErrRange), ("strconv.ErrSyntax", Rows.laid_strconv_ErrSyntax), ("unicode/utf8.first", Rows.laid_unicode_utf8_first)]

set_option maxRecDepth 100000 in
theorem door_met (os : Os) (args : Array Value) : laidMetH Tryd.prog laid7 ((World.laidAll Tryd.prog os laid7).forCall (fun _ _ => 0) ⟨#[], args, []⟩).memory := by
  rw [MakeChecks.laidMetH_plain _ _ _ (by kernel_rfl)]
  exact laidMet_laidAll _ (by kernel_rfl) (by kernel_rfl)

theorem star : "*" ++ "errors.errorString" = "*errors.errorString" := by decide
theorem row115 (u : TypeId) (h : Tryd.prog.typeName? 3 u = some "*errors.errorString") : u = 115 :=
  typeName_ptr_named (nm := "errors.errorString") (by rw [star]; kernel_rfl) (by kernel_rfl) (by decide) u (by rw [star]; exact h)

set_option maxRecDepth 100000 in
theorem env_of {W : World} (h : laidMetH Tryd.prog laid7 W) : Env W := by
  rw [MakeChecks.laidMetH_plain _ _ _ (by kernel_rfl)] at h
  refine ⟨?_, ?_⟩
  · exact Lib.tabIs_of_head (t := 97) (e := 81) (n := 20) gPow (by kernel_rfl) Tryd.underlying97 Tryd.underlying81 (by kernel_rfl) (by kernel_rfl) h.tail.tail
  · obtain ⟨a, s, hv, _⟩ := laid_sentinel (g := 2) (ti := 61) (tp := 115) (te := 117) (ts := 9) h.tail.tail.tail.tail.tail gSyn (by kernel_rfl) Tryd.underlying61 row115 Tryd.underlying115 Tryd.underlying117 rfl rfl Tryd.underlying9 (by kernel_rfl) (by kernel_rfl)
    exact ⟨_, _, hv⟩

theorem array4 {C : Array Value} (h : C.size = 4) : ∃ c0 c1 c2 c3, C = #[c0, c1, c2, c3] := by
  obtain ⟨l⟩ := C
  match l, h with
  | [c0, c1, c2, c3], _ => exact ⟨c0, c1, c2, c3, rfl⟩
theorem cells23 : Tryd.prog.cellsOf 23 = 4 := by kernel_rfl
theorem cells3 : Tryd.prog.cellsOf 3 = 1 := by kernel_rfl
theorem cells9 : Tryd.prog.cellsOf 9 = 1 := by kernel_rfl
set_option maxRecDepth 100000 in
/-- An entry handed in. -/
theorem open_e {H : Type} {enc : TypeId × Value → H} {W : World} {base b0 : Nat} {sp : Nat → Bool} {hd : Bool} {r : Reach} {v : Value} {d : DataW H} {p : List MemPlace}
    (hv : Value.okWide Tryd.prog W r base 23 v) (h : DataW.Trod enc Tryd.prog W b0 sp hd 23 v d p) : ∃ n t k x, v = .agg #[.int .i64 n, .int .i64 t, .string k, .string x] ∧ (-9223372036854775808 ≤ n ∧ n ≤ 9223372036854775807) ∧ (-9223372036854775808 ≤ t ∧ t ≤ 9223372036854775807) ∧ k.size ≤ maxLen ∧ x.size ≤ maxLen := by
  obtain ⟨cs, rfl, hsz⟩ := okWide_struct Tryd.underlying23 hv
  obtain ⟨c0, c1, c2, c3, rfl⟩ := array4 (hsz.trans cells23)
  obtain ⟨fuel, hf⟩ := h
  obtain ⟨y0, y1, y2, y3, n, hx, _, h0, h1, h2, h3⟩ := Go.Joins.trod_struct4 Tryd.underlying23 hf
  simp only [Value.cells, cells3, cells9] at h0 h1 h2 h3
  obtain ⟨a, e0, _, w0⟩ := DataW.trod_int Tryd.underlying3 h0
  obtain ⟨b, e1, _, w1⟩ := DataW.trod_int Tryd.underlying3 h1
  obtain ⟨c, e2, _, w2⟩ := DataW.trod_string Tryd.underlying9 h2
  obtain ⟨d, e3, _, w3⟩ := DataW.trod_string Tryd.underlying9 h3
  simp at e0 e1 e2 e3
  subst e0 e1 e2 e3
  exact ⟨a, b, c, d, rfl, i64_bounds w0, i64_bounds w1, w2, w3⟩
end Go.Proofs.YtahdjndpefclkaaDoor
