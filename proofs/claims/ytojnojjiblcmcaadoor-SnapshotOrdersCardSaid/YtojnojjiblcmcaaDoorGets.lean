/- SnapshotGets returns true for every input. -/
import Derived.Test.YtojnojjiblcmcaaDoorLawD
import Derived.Test.YtojnojjiblcmcaaDoorTie
import Derived.Test.YtojnojjiblcmcaaDoorCards
import Derived.OpenShut
import Derived.ChangeMaps5
import Derived.Carry
import Derived.Test.YtojnojjiblcmcaaDoorORw
import Derived.Test.YtojnojjiblcmcaaDoorB4
import Derived.Test.YtojnojjiblcmcaaDoorB5
import Derived.Test.YtojnojjiblcmcaaDoorB6
namespace Go.Proofs.YtojnojjiblcmcaaDoor
open Go.ChangeShapes Go.WideShapes Go.ChangeAt Go.RowKit Go.ChangeMaps

abbrev laid3 : List (String × DataW Unit) := [("math/bits.deBruijn32tab", Rows.laid_math_bits_deBruijn32tab), ("math/bits.deBruijn64tab", Rows.laid_math_bits_deBruijn64tab), ("internal/strconv.uint64pow10", Rows.laid_internal_strconv_uint64pow10)]
theorem door_met (os : Os) (args : Array Value) : laidMetH Tryd.prog laid3 ((World.doorLaid Tryd.prog 400 os).forCall (fun _ _ => 0) ⟨#[], args, []⟩).memory := by
  rw [MakeChecks.laidMetH_plain _ _ _ (by kernel_rfl)]
  exact laidMet_of_run' 8 (by kernel_rfl) (by kernel_rfl)

theorem gTab : Tryd.prog.globalNamed "math/bits.deBruijn64tab" = some 3 := by kernel_rfl
theorem gTab32 : Tryd.prog.globalNamed "math/bits.deBruijn32tab" = some 2 := by kernel_rfl
theorem tTab : (Tryd.prog.globals[3]?).map (·.type) = some 122 := by kernel_rfl
theorem uTab : Tryd.prog.underlying 122 = some (.array 64 5) := by kernel_rfl
theorem uTab8 : Tryd.prog.underlying 5 = some (.int .u8) := by kernel_rfl
set_option maxRecDepth 100000 in
/-- The table's cell 15, off the condition. -/
theorem tab_cell {W : World} (h : laidMetH Tryd.prog laid3 W) : W.cell? ⟨3, 15, none⟩ = some (.int .u8 4) := by
  rw [MakeChecks.laidMetH_plain _ _ _ (by kernel_rfl)] at h
  obtain ⟨ps, ⟨g0, t0, cs0, f0, p0, q0, hg0, ht0, hv0, hd0, ⟨g1, t1, cs1, f1, p1, q1, hg1, ht1, hv1, hd1, _, _⟩, _⟩, _, _⟩ := h
  obtain rfl := Option.some.inj (gTab.symm.trans hg1)
  obtain rfl := Option.some.inj (tTab.symm.trans ht1)
  obtain ⟨xs, m1, rfl, hx1, hlen, hn3, hel⟩ := DataW.trod_array uTab hd1
  have h0 := hel 15 (by decide)
  have c1 : Tryd.prog.cellsOf 5 = 1 := by kernel_rfl
  have h15 : (xs.map (·.1))[15]? = some (.lit (.int .u8 4)) := by
    have this := DataW.agg.inj (congrArg Prod.fst hx1)
    rw [← this]
    rfl
  rw [List.getElem?_map] at h15
  obtain ⟨x, hx, hx2⟩ := Option.map_eq_some_iff.1 h15
  rw [hx, c1] at h0
  obtain ⟨k, e1, e2, _⟩ := DataW.trod_int uTab8 h0
  have hk : k = 4 := by rw [e2] at hx2; simpa using hx2
  subst hk
  have hc := World.var?_cell hg1 hv1 15
  rw [hc]
  have h2 : (cs1.toList.drop 15)[0]? = some (.int .u8 4) := by
    have := congrArg (fun z : List Value => z[0]?) e1
    simpa using this
  rw [List.getElem?_drop] at h2
  simpa using h2

set_option maxRecDepth 100000 in
theorem SnapshotGets_lifted (os : Os) (started : os.Started) (H : Type) (enc : TypeId × Value → H) :
    ReturnsInHanded {} Tryd.checked os 4 .any (fun w args => (Rows.snapshotGetsSpec.pre enc Tryd.prog Tryd.f4 [] false w args ∧ laidMetH Tryd.prog laid3 w) ∧ sizedMet enc Tryd.prog Tryd.f4 (OpenSpec.ofChange Rows.snapshotGetsSpec) false w args) (Rows.snapshotGetsSpec.post enc Tryd.prog Tryd.f4 false true false false) := by
  refine Law.lifted laid3 started (by kernel_rfl) Tryd.func4 (by kernel_rfl) (tb := 4) rfl Tryd.underlying4 rfl (fun H ds hl => ?_)
    (ChangeSpec.witness_shaped (enc := enc) (C := Tryd.checked) (os := os) (X := fun w _ => laidMetH Tryd.prog laid3 w) false (World.doorLaid Tryd.prog 400 os) #[.slice none 0 0, .string ByteArray.empty, .string ByteArray.empty, .string ByteArray.empty] 8 rfl (World.shaped_of_RefB (by kernel_rfl) (by kernel_rfl)) (by kernel_rfl) (by kernel_rfl) (by kernel_rfl) (door_met os _)) ?_
  · match ds, hl with
    | [d0, d1, d2, d3], _ => rfl
  intro W base args ds p hval hA hwt hlt hlaid hsh
  rw [Tryd.params4] at hA hval
  have hT := tab_cell hlaid
  have h3 : 3 < W.heap.size := block_lt_of_cell hT
  obtain ⟨v0, v1, v2, v3, d0, d1, d2, d3, p0, p1, p2, p3, rfl, rfl, rfl, h0, h1, h2, h3'⟩ := trodAll_four hA
  obtain ⟨A, n, c, f, rfl, hn, hc, hsl, hwf, hnil, _⟩ := openRw (hval 0 22 v0 rfl rfl) h0
  obtain ⟨t, rfl, _, _, ht⟩ := open_string Tryd.underlying9 (hval 1 9 v1 rfl rfl) h1
  obtain ⟨v, rfl, _, _, hv⟩ := open_string Tryd.underlying9 (hval 2 9 v2 rfl rfl) h2
  obtain ⟨o, rfl, _, _, ho⟩ := open_string Tryd.underlying9 (hval 3 9 v3 rfl rfl) h3'
  have hl : ((List.range n).map f).length = n := by simp
  have hA' : Sl W W.heap.size 2 A n (fun i => rwV ((List.range n).map f)[i]!) := (hsl.less hn).congr fun i hi => by
    have : ((List.range n).map f)[i]! = f i := by simp [hi]
    simp only [this]; rfl
  have hz : ∀ x ∈ (List.range n).map f, x.1.size ≤ maxLen ∧ x.2.size ≤ maxLen := fun x hx => by
    obtain ⟨i, hi, rfl⟩ := List.mem_map.1 hx
    exact hwf i (Nat.lt_of_lt_of_le (List.mem_range.1 hi) hn)
  have hn' : n ≤ maxLen := Nat.le_trans hn hc
  have hnil' : A = none → n = 0 := fun h => (hnil h).1
  by_cases hs : setC ((List.range n).map f) t v = 0
  · by_cases hot : o = t
    · exact Gets_eq A n c _ W hA' hl hz hn' hnil' t v o ht hv hT h3 hs hot
    · exact Gets_ne A n c _ W hA' hl hz hn' hnil' t v o ht hv hT h3 hs hot
  · exact Gets_no A n c _ W hA' hl hz hn' hnil' t v o ht hv hT h3 hs

theorem SnapshotGets_row : Rows.SnapshotGetsSaid :=
  OpenClaim.holds_of_wide 4 Tryd.f4 rfl rfl rfl rfl rfl rfl rfl ⟨rfl, rfl, rfl, rfl, rfl⟩ rfl rfl rfl rfl rfl (by kernel_rfl) Tryd.func4 (by kernel_rfl)
    (of_decide_eq_true (by kernel_rfl)) (by unfold Func.isWrapper; rw [if_neg (of_decide_eq_false (by kernel_rfl))]; exact ⟨rfl, rfl⟩)
    (fun os started H enc _ => SnapshotGets_lifted os started H enc)

theorem SnapshotGets_holds : Rows.SnapshotGetsCardSaid :=
  Claim7.holds_tied_plain_at .later [] [.data, .data, .data] true (true, "d4e8a51a2514cb0c90beadb1d217d9c2e98780b2d5a5878c2c4a8f9f43d2c7fc") false
    SnapshotGets_row (fun _ h => by cases h) (by kernel_rfl) (fun _ h => by cases h) snapshotGets_row_tie rfl ⟨rfl, rfl⟩ (by kernel_rfl) rfl
    (fun f fn hf hfn => by
      obtain rfl : f = 4 := Option.some.inj ((show Tryd.prog.funcNamed "skyway/skywaykeep4.SnapshotGets" = some 4 by kernel_rfl).symm.trans hf) |>.symm
      obtain rfl : fn = Tryd.f4 := (Option.some.inj (Tryd.func4.symm.trans hfn)).symm
      exact ⟨by kernel_rfl, fun j t ht => by
        rw [Tryd.params4] at ht
        have hm : t ∈ [22, 9, 9, 9] := by simpa using Array.mem_of_getElem? ht
        have hall : ([22, 9, 9, 9].all fun u => !Tryd.prog.wantsStandIn u) = true := by kernel_rfl
        exact (show Tryd.prog.wantsStandIn t = false by simpa using List.all_eq_true.1 hall t hm)⟩)
    (by kernel_rfl)
end Go.Proofs.YtojnojjiblcmcaaDoor
