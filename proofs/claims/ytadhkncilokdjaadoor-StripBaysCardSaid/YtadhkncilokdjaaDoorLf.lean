/- What the listed variables give; a strip handed in. -/
import Derived.Test.YtadhkncilokdjaaDoorLawD
import Derived.Test.YtadhkncilokdjaaDoorTie
import Derived.Test.YtadhkncilokdjaaDoorCards
import Derived.Stop.LaidErr
import Derived.Lib.LaidTab
import Derived.OpenShut
import Derived.Carry
import Derived.Lay
import Derived.Shelf.Vars
import Derived.Lib.SmallJoins
import Derived.Test.YtadhkncilokdjaaDoorA8
import Derived.Test.YtadhkncilokdjaaDoorOSt
namespace Go.Proofs.YtadhkncilokdjaaDoor
open Go.ChangeShapes Go.WideShapes Go.ChangeAt Go.RowKit

abbrev laidT : List (String × DataW Unit) := [("math/bits.deBruijn32tab", Rows.laid_math_bits_deBruijn32tab), ("math/bits.deBruijn64tab", Rows.laid_math_bits_deBruijn64tab), ("internal/strconv.uint64pow10", Rows.laid_internal_strconv_uint64pow10)]
theorem door_metT (os : Os) (args : Array Value) : laidMetH Tryd.prog laidT ((World.doorLaid Tryd.prog 400 os).forCall (fun _ _ => 0) ⟨#[], args, []⟩).memory := by
  rw [MakeChecks.laidMetH_plain _ _ _ (by kernel_rfl)]
  exact laidMet_of_run' 8 (by kernel_rfl) (by kernel_rfl)
theorem gPow1 : Tryd.prog.globalNamed "internal/strconv.uint64pow10" = some 1 := by kernel_rfl
theorem env_of {W : World} (h : laidMetH Tryd.prog laidT W) : Env W := by
  rw [MakeChecks.laidMetH_plain _ _ _ (by kernel_rfl)] at h
  exact Lib.tabIs_of_head (t := 100) (e := 72) (n := 20) gPow1 (by kernel_rfl) Tryd.underlying100 Tryd.underlying72 (by kernel_rfl) (by kernel_rfl) h.tail.tail

theorem cells24 : Tryd.prog.cellsOf 24 = 5 := by kernel_rfl
theorem open_st {H : Type} {enc : TypeId × Value → H} {W : World} {base b0 : Nat} {sp : Nat → Bool} {hd : Bool} {r : Reach} {v : Value} {d : DataW H} {p : List MemPlace}
    (hv : Value.okWide Tryd.prog W r base 24 v) (h : DataW.Trod enc Tryd.prog W b0 sp hd 24 v d p) : ∃ x : St, v = .agg #[.string x.c, .string x.f, .int .i64 x.t, .int .i64 x.h, .int .i64 x.b] ∧ x.c.size ≤ maxLen ∧ x.f.size ≤ maxLen := by
  obtain ⟨cs, rfl, hsz⟩ := okWide_struct Tryd.underlying24 hv
  have hsz := hsz.trans cells24
  obtain ⟨c0, c1, c2, c3, c4, rfl⟩ : ∃ c0 c1 c2 c3 c4, cs = #[c0, c1, c2, c3, c4] := by
    obtain ⟨l⟩ := cs
    match l, hsz with
    | [c0, c1, c2, c3, c4], _ => exact ⟨c0, c1, c2, c3, c4, rfl⟩
  obtain ⟨fuel, hf⟩ := h
  obtain ⟨ys, n', hn', hy, hlen, hyl, hfl⟩ := DataW.trod_struct Tryd.underlying24 hf
  have k : ∀ (j : Nat) (hj : j < ys.length), ys[j]? = some (ys[j]'hj) := fun j hj => List.getElem?_eq_getElem hj
  have hl5 : ys.length = 5 := hyl
  have h0 : DataW.trod enc Tryd.prog W b0 sp hd n' 9 (List.take (Tryd.prog.cellsOf 9) [c0, c1, c2, c3, c4]) = some (ys[0]'(by omega)) := (hfl 0 _ rfl).trans (k 0 (by omega))
  have h1 : DataW.trod enc Tryd.prog W b0 sp hd n' 9 (List.take (Tryd.prog.cellsOf 9) [c1, c2, c3, c4]) = some (ys[1]'(by omega)) := (hfl 1 _ rfl).trans (k 1 (by omega))
  have h2 : DataW.trod enc Tryd.prog W b0 sp hd n' 3 (List.take (Tryd.prog.cellsOf 3) [c2, c3, c4]) = some (ys[2]'(by omega)) := (hfl 2 _ rfl).trans (k 2 (by omega))
  have h3 : DataW.trod enc Tryd.prog W b0 sp hd n' 3 (List.take (Tryd.prog.cellsOf 3) [c3, c4]) = some (ys[3]'(by omega)) := (hfl 3 _ rfl).trans (k 3 (by omega))
  have h4 : DataW.trod enc Tryd.prog W b0 sp hd n' 3 (List.take (Tryd.prog.cellsOf 3) [c4]) = some (ys[4]'(by omega)) := (hfl 4 _ rfl).trans (k 4 (by omega))
  have e9 : Tryd.prog.cellsOf 9 = 1 := by kernel_rfl
  have e3 : Tryd.prog.cellsOf 3 = 1 := by kernel_rfl
  rw [e9] at h0 h1
  rw [e3] at h2 h3 h4
  simp only [List.take_succ_cons, List.take_zero] at h0 h1 h2 h3 h4
  obtain ⟨q0, g0, _, f0⟩ := DataW.trod_string Tryd.underlying9 h0
  obtain ⟨q1, g1, _, f1⟩ := DataW.trod_string Tryd.underlying9 h1
  obtain ⟨q2, g2, _, f2⟩ := DataW.trod_int Tryd.underlying3 h2
  obtain ⟨q3, g3, _, f3⟩ := DataW.trod_int Tryd.underlying3 h3
  obtain ⟨q4, g4, _, f4⟩ := DataW.trod_int Tryd.underlying3 h4
  simp at g0 g1 g2 g3 g4
  subst g0 g1 g2 g3 g4
  exact ⟨⟨q0, q1, q2, q3, q4⟩, rfl, f0, f1⟩
end Go.Proofs.YtadhkncilokdjaaDoor
