/- What the listed variables give. -/
import Derived.Test.YtaebebpldkciiaaGreatDoorTie
import Derived.Test.YtaebebpldkciiaaGreatDoorCards
import Derived.Test.YtaebebpldkciiaaGreatDoorQG01
import Derived.Test.YtaebebpldkciiaaGreatDoorQB1
import Derived.Test.YtaebebpldkciiaaGreatDoorQS2
import Derived.Stop.LaidErr
import Derived.Lib.LaidTab
import Derived.OpenShut
import Derived.ChangeMaps5
import Derived.Carry
import Derived.Lay
import Derived.Shelf.Vars
import Derived.Test.YtaebebpldkciiaaGreatDoorQShE
import Derived.Lib.SmallJoins
import Derived.Test.YtaebebpldkciiaaGreatDoorQOpen
namespace Go.Proofs.YtaebebpldkciiaaGreatDoor
open Go.ChangeShapes Go.WideShapes Go.ChangeAt Go.RowKit Go.ChangeMaps
theorem gKinds : Tryz.prog.globalNamed "skyway/centre.kinds" = some 0 := by kernel_rfl
theorem gSin : Tryz.prog.globalNamed "math._sin" = some 9 := by kernel_rfl
theorem gCos : Tryz.prog.globalNamed "math._cos" = some 8 := by kernel_rfl
theorem gPi4 : Tryz.prog.globalNamed "math.mPi4" = some 12 := by kernel_rfl
theorem str_of_data {s : ByteArray} {k : List UInt8} (h : s.data.toList = k) : s = ⟨k.toArray⟩ := by
 obtain ⟨d⟩ := s
 have h : d.toList = k := h
 subst h
 simp
theorem trod_f {H : Type} {enc : TypeId × Value → H} {P : Program} {w : World} {base : Nat} {spare : Nat → Bool} {held : Bool} {t : TypeId} {cs : List Value} {fuel : Nat} {x : DataW H × List MemPlace} (ht : P.underlying t = some (.float .f64)) (h : DataW.trod enc P w base spare held fuel t cs = some x) : ∃ b, cs = [.float .f64 b] ∧ x = (.lit (.float .f64 b), []) ∧ (Lit.float .f64 b).wf = true := by
 cases fuel with
 | zero => simp [DataW.trod] at h
 | succ n =>
  unfold DataW.trod at h
  rw [ht] at h
  split at h <;> simp_all
theorem f_table {W : World} {nm : String} {g : Nat} {ty : TypeId} {n : Nat} {bs : List Nat} {rest : List (String × DataW Unit)} (h : laidMet Tryz.prog ((nm, .agg (bs.map fun b => .lit (.float .f64 b))) :: rest) W) (hg : Tryz.prog.globalNamed nm = some g) (hty : (Tryz.prog.globals[g]?).map (·.type) = some ty) (hu : Tryz.prog.underlying ty = some (.array n 254)) (i b : Nat) (hi : i < n) (hb : bs[i]? = some b) :
  W.cell? ⟨g, i, none⟩ = some (.float .f64 b) := by
 obtain ⟨ps, ⟨g', t', cs, fuel, p, q, hg', ht', hvar, hd, _, _⟩, _⟩ := h
 obtain rfl := Option.some.inj (hg.symm.trans hg')
 obtain rfl := Option.some.inj (hty.symm.trans ht')
 obtain ⟨xs, m, _, hx, hl, hxl, hf⟩ := DataW.trod_array hu hd
 have h1 := hf i hi
 have hx' : xs.map (·.1) = bs.map fun b => (.lit (.float .f64 b) : DataW Unit) := by
  have h1 := congrArg Prod.fst hx
  have h2 : (DataW.agg (xs.map (·.1)) : DataW Unit) = .agg (bs.map fun b => .lit (.float .f64 b)) := h1.symm
  injection h2
 have hk : (xs.map (·.1))[i]? = some (.lit (.float .f64 b)) := by rw [hx', List.getElem?_map, hb]; rfl
 rw [List.getElem?_map] at hk
 cases hxi : xs[i]? with
 | none => rw [hxi] at hk; cases hk
 | some y =>
  rw [hxi] at h1 hk
  obtain ⟨b', e, ey, _⟩ := trod_f Tryz.underlying254 h1
  rw [ey] at hk
  have hk : b' = b := by simpa using hk
  subst hk
  have hc : Tryz.prog.cellsOf 254 = 1 := by kernel_rfl
  rw [hc, Nat.mul_one] at e
  have e0 := congrArg (·[0]?) e
  simp only [List.getElem?_take, List.getElem?_drop] at e0
  have e1 : cs[i]? = some (.float .f64 b') := by simpa using e0
  rw [World.var?_cell hg hvar i, e1]
theorem sinData : (Rows.laid_math_sin : DataW Unit) = .agg ([4460209587652500685, 13716528389658582877, 4523617212962785441, 13774824197404483331, 4575957461383575504, 13818544856648471880].map fun b => .lit (.float .f64 b)) := rfl
theorem cosData : (Rows.laid_math_cos : DataW Unit) = .agg ([13666448263388469915, 4477121864728985349, 13732177093698800582, 4537941361668146421, 13787419979223748497, 4586165620538955083].map fun b => .lit (.float .f64 b)) := rfl
theorem ks_at {W : World} {rest : List (String × DataW Unit)} (h : laidMet Tryz.prog (("skyway/centre.kinds", Rows.laid_skyway_centre_kinds) :: rest) W) : KsAt kindsS W ∧ 0 < W.heap.size := by
 obtain ⟨ps, ⟨g', t', cs, fuel, p, q, hg', ht', hvar, hd, _, _⟩, _⟩ := h
 obtain rfl := Option.some.inj (gKinds.symm.trans hg')
 have hty : (Tryz.prog.globals[0]?).map (·.type) = some 131 := by kernel_rfl
 obtain rfl := Option.some.inj (hty.symm.trans ht')
 obtain ⟨xs, m, _, hx, hl, hxl, hf⟩ := DataW.trod_array Tryz.underlying131 hd
 have hc9 : Tryz.prog.cellsOf 9 = 1 := by kernel_rfl
 have key : ∀ i (k : List UInt8), i < 7 → (xs.map (·.1))[i]? = some (.lit (.string k)) → W.cell? ⟨0, i, none⟩ = some (.string ⟨k.toArray⟩) := fun i k hi hk => by
  have h1 := hf i hi
  rw [List.getElem?_map] at hk
  cases hxi : xs[i]? with
  | none => rw [hxi] at hk; cases hk
  | some y =>
   rw [hxi] at h1 hk
   obtain ⟨s, e, ey, _⟩ := DataW.trod_string Tryz.underlying9 h1
   rw [ey] at hk
   have hk : s.data.toList = k := by simpa using hk
   rw [hc9, Nat.mul_one] at e
   have e0 := congrArg (·[0]?) e
   simp only [List.getElem?_take, List.getElem?_drop] at e0
   have e1 : cs[i]? = some (.string s) := by simpa using e0
   rw [World.var?_cell gKinds hvar i, e1, str_of_data hk]
 have hx' : xs.map (·.1) = [.lit (.string [102, 105, 108, 101]), .lit (.string [111, 102, 102, 101, 114]), .lit (.string [97, 99, 99, 101, 112, 116]), .lit (.string [99, 108, 101, 97, 114]), .lit (.string [104, 101, 97, 114]), .lit (.string [114, 101, 102, 117, 115, 101]), .lit (.string [101, 110, 100])] := by
  have h1 := congrArg Prod.fst hx
  have h2 : (DataW.agg (xs.map (·.1)) : DataW Unit) = Rows.laid_skyway_centre_kinds := h1.symm
  unfold Rows.laid_skyway_centre_kinds at h2
  injection h2
 rw [hx'] at key
 have hks : KsAt kindsS W := fun i hi => by
  rcases (show i = 0 ∨ i = 1 ∨ i = 2 ∨ i = 3 ∨ i = 4 ∨ i = 5 ∨ i = 6 by omega) with e | e | e | e | e | e | e <;> subst e <;> exact key _ _ (by decide) rfl
 exact ⟨hks, World.block_lt_of_cell? W _ (hks 0 (by decide))⟩
theorem tab_at {W : World} {r1 r2 r3 : List (String × DataW Unit)} (hs : laidMet Tryz.prog (("math._sin", Rows.laid_math_sin) :: r1) W) (hc : laidMet Tryz.prog (("math._cos", Rows.laid_math_cos) :: r2) W) (hp : laidMet Tryz.prog (("math.mPi4", Rows.laid_math_mPi4) :: r3) W) : TabAt W := by
 rw [sinData] at hs
 rw [cosData] at hc
 have ks := fun i b (hi : i < 6) hb => f_table hs gSin (ty := 290) (by kernel_rfl) Tryz.underlying290 i b hi hb
 have kc := fun i b (hi : i < 6) hb => f_table hc gCos (ty := 290) (by kernel_rfl) Tryz.underlying290 i b hi hb
 have hl : 12 < W.heap.size := by
  obtain ⟨ps, ⟨g', t', cs, fuel, p, q, hg', ht', hvar, hd, _, _⟩, _⟩ := hp
  obtain rfl := Option.some.inj (gPi4.symm.trans hg')
  have hty : (Tryz.prog.globals[12]?).map (·.type) = some 268 := by kernel_rfl
  obtain rfl := Option.some.inj (hty.symm.trans ht')
  obtain ⟨xs, m, _, _, hcl, _, _⟩ := DataW.trod_array Tryz.underlying268 hd
  have h20 : Tryz.prog.cellsOf 268 = 20 := by kernel_rfl
  have h0 := World.var?_cell gPi4 hvar 0
  rw [Array.getElem?_eq_getElem (show 0 < cs.size by rw [← Array.length_toList, hcl, h20]; decide)] at h0
  exact World.block_lt_of_cell? W _ h0
 exact ⟨kc 0 _ (by decide) rfl, kc 1 _ (by decide) rfl, kc 2 _ (by decide) rfl, kc 3 _ (by decide) rfl, kc 4 _ (by decide) rfl, kc 5 _ (by decide) rfl, ks 0 _ (by decide) rfl, ks 1 _ (by decide) rfl, ks 2 _ (by decide) rfl, ks 3 _ (by decide) rfl, ks 4 _ (by decide) rfl, ks 5 _ (by decide) rfl, hl⟩
end Go.Proofs.YtaebebpldkciiaaGreatDoor
namespace Go.Proofs.YtaebebpldkciiaaGreatDoor
open Go.ChangeShapes Go.WideShapes Go.ChangeAt Go.RowKit Go.ChangeMaps
abbrev laid11 : List (String × DataW Unit) := [("math/bits.deBruijn32tab", Rows.laid_math_bits_deBruijn32tab), ("math/bits.deBruijn64tab", Rows.laid_math_bits_deBruijn64tab), ("internal/strconv.uint64pow10", Rows.laid_internal_strconv_uint64pow10), ("unicode/utf8.acceptRanges", Rows.laid_unicode_utf8_acceptRanges), ("math._sin", Rows.laid_math_sin), ("math._cos", Rows.laid_math_cos), ("math.mPi4", Rows.laid_math_mPi4), ("strconv.ErrRange", Rows.laid_strconv_ErrRange), ("strconv.ErrSyntax", Rows.laid_strconv_ErrSyntax), ("skyway/centre.kinds", Rows.laid_skyway_centre_kinds), ("unicode/utf8.first", Rows.laid_unicode_utf8_first)]
set_option maxRecDepth 100000 in
theorem door_met11 (os : Os) (args : Array Value) : laidMetH Tryz.prog laid11 ((World.laidAll Tryz.prog os laid11).forCall (fun _ _ => 0) ⟨#[], args, []⟩).memory := by
 rw [MakeChecks.laidMetH_plain _ _ _ (by kernel_rfl)]
 exact laidMet_laidAll _ (by kernel_rfl) (by kernel_rfl)
theorem star : "*" ++ "errors.errorString" = "*errors.errorString" := by decide
theorem row294 (u : TypeId) (h : Tryz.prog.typeName? 3 u = some "*errors.errorString") : u = 294 :=
 typeName_ptr_named (nm := "errors.errorString") (by rw [star]; kernel_rfl) (by kernel_rfl) (by decide) u (by rw [star]; exact h)
set_option maxRecDepth 100000 in
theorem env_of {W : World} (h : laidMetH Tryz.prog laid11 W) (hsh : W.ShapedOpen Tryz.prog) : Env W := by
 rw [MakeChecks.laidMetH_plain _ _ _ (by kernel_rfl)] at h
 refine ⟨?_, ?_, ?_, ?_⟩
 ·exact Lib.tabIs_of_head (t := 268) (e := 160) (n := 20) gPow (by kernel_rfl) Tryz.underlying268 Tryz.underlying160 (by kernel_rfl) (by kernel_rfl) h.tail.tail
 ·obtain ⟨a, s, hv, _⟩ := laid_sentinel (g := 6) (ti := 210) (tp := 294) (te := 296) (ts := 9) h.tail.tail.tail.tail.tail.tail.tail.tail gSyn (by kernel_rfl) Tryz.underlying210 row294 Tryz.underlying294 Tryz.underlying296 rfl rfl Tryz.underlying9 (by kernel_rfl) (by kernel_rfl)
  exact ⟨_, _, hv⟩
 ·obtain ⟨a, s, hv, _⟩ := laid_sentinel (g := 7) (ti := 210) (tp := 294) (te := 296) (ts := 9) h.tail.tail.tail.tail.tail.tail.tail gRng (by kernel_rfl) Tryz.underlying210 row294 Tryz.underlying294 Tryz.underlying296 rfl rfl Tryz.underlying9 (by kernel_rfl) (by kernel_rfl)
  exact ⟨_, _, hv⟩
 ·exact cell_of_shapedOpen_int (g := 1) (t := 3) (zero := #[.int .i64 0]) hsh (of_decide_eq_true (by kernel_rfl)) (by kernel_rfl) (by kernel_rfl) (by kernel_rfl) (by kernel_rfl) Tryz.underlying3
end Go.Proofs.YtaebebpldkciiaaGreatDoor
