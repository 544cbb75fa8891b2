/- What the listed variables give (five of them). -/
import Derived.Test.YtojnojjiblcmcaaDoorLawD
import Derived.Test.YtojnojjiblcmcaaDoorTie
import Derived.Test.YtojnojjiblcmcaaDoorCards
import Derived.Stop.LaidErr
import Derived.Lib.LaidTab
import Derived.OpenShut
import Derived.ChangeMaps5
import Derived.Carry
import Derived.Lay
import Derived.Shelf.Vars
import Derived.Lib.SmallJoins
import Derived.Test.YtojnojjiblcmcaaDoorORw
import Derived.Test.YtojnojjiblcmcaaDoorR4
namespace Go.Proofs.YtojnojjiblcmcaaDoor
open Go.ChangeShapes Go.WideShapes Go.ChangeAt Go.RowKit Go.ChangeMaps

abbrev laid7 : List (String × DataW Unit) := [("math/bits.deBruijn32tab", Rows.laid_math_bits_deBruijn32tab), ("math/bits.deBruijn64tab", Rows.laid_math_bits_deBruijn64tab), ("internal/strconv.uint64pow10", Rows.laid_internal_strconv_uint64pow10), ("unicode/utf8.acceptRanges", Rows.laid_unicode_utf8_acceptRanges), ("unicode/utf8.first", Rows.laid_unicode_utf8_first)]

set_option maxRecDepth 100000 in
theorem door_met5 (os : Os) (args : Array Value) : laidMetH Tryd.prog laid7 ((World.laidAll Tryd.prog os laid7).forCall (fun _ _ => 0) ⟨#[], args, []⟩).memory := by
  rw [MakeChecks.laidMetH_plain _ _ _ (by kernel_rfl)]
  exact laidMet_laidAll _ (by kernel_rfl) (by kernel_rfl)

theorem gTab64 : Tryd.prog.globalNamed "math/bits.deBruijn64tab" = some 3 := by kernel_rfl
def tab64 : List Int := [0, 1, 56, 2, 57, 49, 28, 3, 61, 58, 42, 50, 38, 29, 17, 4, 62, 47, 59, 36, 45, 43, 51, 22, 53, 39, 33, 30, 24, 18, 12, 5, 63, 55, 48, 27, 60, 41, 37, 16, 46, 35, 44, 21, 52, 32, 23, 11, 54, 26, 40, 15, 34, 20, 31, 10, 25, 14, 19, 9, 13, 8, 7, 6]

set_option maxRecDepth 100000 in
theorem env_of {W : World} (h : laidMetH Tryd.prog laid7 W) (hsh : W.ShapedOpen Tryd.prog) : EnvS W := by
  rw [MakeChecks.laidMetH_plain _ _ _ (by kernel_rfl)] at h
  have ht : Lib.TabIs Tryd.prog W "math/bits.deBruijn64tab" .u8 tab64 := Lib.tabIs_of_head (t := 122) (e := 5) (n := 64) gTab64 (by kernel_rfl) Tryd.underlying122 Tryd.underlying5 (by kernel_rfl) (by kernel_rfl) h.tail
  unfold Lib.TabIs at ht
  have hc := World.var?_cell gTab64 ht 15
  have h15 : W.cell? ⟨3, 15, none⟩ = some (.int .u8 4) := by rw [hc]; rfl
  refine ⟨h15, ?_, ?_⟩
  · rcases Nat.lt_or_ge 3 W.heap.size with h' | h'
    · exact h'
    · unfold World.cell? at h15
      rw [Array.getElem?_eq_none h'] at h15
      cases h15
  · exact cell_of_shapedOpen_int (g := 0) (t := 3) (zero := #[.int .i64 0]) hsh (of_decide_eq_true (by kernel_rfl)) (by kernel_rfl) (by kernel_rfl) (by kernel_rfl) (by kernel_rfl) Tryd.underlying3

/-- A state handed in. -/
theorem stAt_of {W : World} {A : Option Addr} {n c : Nat} {f : Nat → ByteArray × ByteArray} (hn : n ≤ c) (hc : c ≤ maxLen) (hsl : Sl W W.heap.size 2 A c (fun i => rowRw (f i))) (hwf : ∀ i, i < c → wfRw (f i)) (hnil : A = none → n = 0 ∧ c = 0) :
    ∃ l, StAt l A n W := by
  refine ⟨(List.range n).map f, (hsl.less hn).congr fun i hi => ?_, by simp, fun x hx => ?_, by omega, fun h => (hnil h).1⟩
  · have : ((List.range n).map f)[i]! = f i := by simp [hi]
    rw [this]; rfl
  · obtain ⟨i, hi, rfl⟩ := List.mem_map.1 hx
    exact hwf i (by have := List.mem_range.1 hi; omega)
end Go.Proofs.YtojnojjiblcmcaaDoor
