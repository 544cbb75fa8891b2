/- What the listed variables give (three of them). -/
import Derived.Test.YtojnojjiblcmcaaDoorLf
namespace Go.Proofs.YtojnojjiblcmcaaDoor
open Go.ChangeShapes Go.WideShapes Go.ChangeAt Go.RowKit Go.ChangeMaps

abbrev laidT : List (String × DataW Unit) := [("math/bits.deBruijn32tab", Rows.laid_math_bits_deBruijn32tab), ("math/bits.deBruijn64tab", Rows.laid_math_bits_deBruijn64tab), ("internal/strconv.uint64pow10", Rows.laid_internal_strconv_uint64pow10)]
theorem door_metT (os : Os) (args : Array Value) : laidMetH Tryd.prog laidT ((World.doorLaid Tryd.prog 400 os).forCall (fun _ _ => 0) ⟨#[], args, []⟩).memory := by
  rw [MakeChecks.laidMetH_plain _ _ _ (by kernel_rfl)]
  exact laidMet_of_run' 8 (by kernel_rfl) (by kernel_rfl)

theorem gTabT : Tryd.prog.globalNamed "math/bits.deBruijn64tab" = some 3 := by kernel_rfl
theorem gTabT32 : Tryd.prog.globalNamed "math/bits.deBruijn32tab" = some 2 := by kernel_rfl
theorem tTabT : (Tryd.prog.globals[3]?).map (·.type) = some 122 := by kernel_rfl
theorem uTabT : Tryd.prog.underlying 122 = some (.array 64 5) := by kernel_rfl
theorem uTabT8 : Tryd.prog.underlying 5 = some (.int .u8) := by kernel_rfl
set_option maxRecDepth 100000 in
/-- The table's cell 15, off the condition. -/
theorem tab_cellT {W : World} (h : laidMetH Tryd.prog laidT W) : W.cell? ⟨3, 15, none⟩ = some (.int .u8 4) := by
  rw [MakeChecks.laidMetH_plain _ _ _ (by kernel_rfl)] at h
  obtain ⟨ps, ⟨g0, t0, cs0, f0, p0, q0, hg0, ht0, hv0, hd0, ⟨g1, t1, cs1, f1, p1, q1, hg1, ht1, hv1, hd1, _, _⟩, _⟩, _, _⟩ := h
  obtain rfl := Option.some.inj (gTabT.symm.trans hg1)
  obtain rfl := Option.some.inj (tTabT.symm.trans ht1)
  obtain ⟨xs, m1, rfl, hx1, hlen, hn3, hel⟩ := DataW.trod_array uTabT hd1
  have h0 := hel 15 (by decide)
  have c1 : Tryd.prog.cellsOf 5 = 1 := by kernel_rfl
  have h15 : (xs.map (·.1))[15]? = some (.lit (.int .u8 4)) := by
    have this := DataW.agg.inj (congrArg Prod.fst hx1)
    rw [← this]
    rfl
  rw [List.getElem?_map] at h15
  obtain ⟨x, hx, hx2⟩ := Option.map_eq_some_iff.1 h15
  rw [hx, c1] at h0
  obtain ⟨k, e1, e2, _⟩ := DataW.trod_int uTabT8 h0
  have hk : k = 4 := by rw [e2] at hx2; simpa using hx2
  subst hk
  have hc := World.var?_cell hg1 hv1 15
  rw [hc]
  have h2 : (cs1.toList.drop 15)[0]? = some (.int .u8 4) := by
    have := congrArg (fun z : List Value => z[0]?) e1
    simpa using this
  rw [List.getElem?_drop] at h2
  simpa using h2

set_option maxRecDepth 100000 in
theorem env_of3 {W : World} (h : laidMetH Tryd.prog laidT W) (hsh : W.ShapedOpen Tryd.prog) : EnvS W := by
  have hT := tab_cellT h
  exact ⟨hT, block_lt_of_cell hT, cell_of_shapedOpen_int (g := 0) (t := 3) (zero := #[.int .i64 0]) hsh (of_decide_eq_true (by kernel_rfl)) (by kernel_rfl) (by kernel_rfl) (by kernel_rfl) (by kernel_rfl) Tryd.underlying3⟩
end Go.Proofs.YtojnojjiblcmcaaDoor
