/- SnapshotOrders returns true for every input. -/
import Derived.Test.YtojnojjiblcmcaaDoorLawD
import Derived.Test.YtojnojjiblcmcaaDoorTie
import Derived.Test.YtojnojjiblcmcaaDoorCards
import Derived.OpenShut
import Derived.ChangeMaps5
import Derived.Carry
import Derived.Test.YtojnojjiblcmcaaDoorORw
import Derived.Test.YtojnojjiblcmcaaDoorB8
import Derived.Test.YtojnojjiblcmcaaDoorGets
namespace Go.Proofs.YtojnojjiblcmcaaDoor
open Go.ChangeShapes Go.WideShapes Go.ChangeAt Go.RowKit Go.ChangeMaps

theorem trodAll_5 {H : Type} {enc : TypeId × Value → H} {P : Program} {w : World} {base : Nat} {spare : Nat → Bool} {held : Bool} {t t1 t2 t3 t4 : TypeId} {args : Array Value} {ds : List (DataW H)} {ps : List MemPlace} (h : DataW.TrodAll enc P w base spare held [t, t1, t2, t3, t4] args.toList ds ps) :
    ∃ v v1 v2 v3 v4 d d1 d2 d3 d4 p p1 p2 p3 p4, args = #[v, v1, v2, v3, v4] ∧ ds = [d, d1, d2, d3, d4] ∧ ps = p ++ p1 ++ p2 ++ p3 ++ p4 ∧ DataW.Trod enc P w base spare held t v d p ∧ DataW.Trod enc P w base spare held t1 v1 d1 p1 ∧ DataW.Trod enc P w base spare held t2 v2 d2 p2 ∧ DataW.Trod enc P w base spare held t3 v3 d3 p3 ∧ DataW.Trod enc P w base spare held t4 v4 d4 p4 := by
  obtain ⟨v, _, d, _, p, _, hargs, rfl, rfl, hd, hr⟩ := trodAll_cons h
  obtain ⟨v1, _, d1, _, p1, _, rfl, rfl, rfl, hd1, hr1⟩ := trodAll_cons hr
  obtain ⟨v2, _, d2, _, p2, _, rfl, rfl, rfl, hd2, hr2⟩ := trodAll_cons hr1
  obtain ⟨v3, _, d3, _, p3, _, rfl, rfl, rfl, hd3, hr3⟩ := trodAll_cons hr2
  obtain ⟨v4, _, d4, _, p4, _, rfl, rfl, rfl, hd4, hr4⟩ := trodAll_cons hr3
  obtain ⟨rfl, rfl, rfl⟩ := trodAll_nil hr4
  exact ⟨v, v1, v2, v3, v4, d, d1, d2, d3, d4, p, p1, p2, p3, p4, by cases args; simp_all, rfl, by simp, hd, hd1, hd2, hd3, hd4⟩

set_option maxRecDepth 100000 in
theorem SnapshotOrders_lifted (os : Os) (started : os.Started) (H : Type) (enc : TypeId × Value → H) :
    ReturnsInHanded {} Tryd.checked os 3 .any (fun w args => (Rows.snapshotOrdersSpec.pre enc Tryd.prog Tryd.f3 [] false w args ∧ laidMetH Tryd.prog laid3 w) ∧ sizedMet enc Tryd.prog Tryd.f3 (OpenSpec.ofChange Rows.snapshotOrdersSpec) false w args) (Rows.snapshotOrdersSpec.post enc Tryd.prog Tryd.f3 false true false false) := by
  refine Law.lifted laid3 started (by kernel_rfl) Tryd.func3 (by kernel_rfl) (tb := 4) rfl Tryd.underlying4 rfl (fun H ds hl => ?_)
    (ChangeSpec.witness_shaped (enc := enc) (C := Tryd.checked) (os := os) (X := fun w _ => laidMetH Tryd.prog laid3 w) false (World.doorLaid Tryd.prog 400 os) #[.slice none 0 0, .string ByteArray.empty, .string ByteArray.empty, .string ByteArray.empty, .string ByteArray.empty] 8 rfl (World.shaped_of_RefB (by kernel_rfl) (by kernel_rfl)) (by kernel_rfl) (by kernel_rfl) (by kernel_rfl) (door_met os _)) ?_
  · match ds, hl with
    | [d0, d1, d2, d3, d4], _ => rfl
  intro W base args ds p hval hA hwt hlt hlaid hsh
  rw [Tryd.params3] at hA hval
  have hT := tab_cell hlaid
  have h3 : 3 < W.heap.size := block_lt_of_cell hT
  obtain ⟨v0, v1, v2, v3, v4, d0, d1, d2, d3, d4, p0, p1, p2, p3, p4, rfl, rfl, rfl, h0, h1, h2, h3', h4⟩ := trodAll_5 hA
  obtain ⟨A, n, c, f, rfl, hn, hc, hsl, hwf, hnil, _⟩ := openRw (hval 0 22 v0 rfl rfl) h0
  obtain ⟨a, rfl, _, _, ha⟩ := open_string Tryd.underlying9 (hval 1 9 v1 rfl rfl) h1
  obtain ⟨b, rfl, _, _, hb⟩ := open_string Tryd.underlying9 (hval 2 9 v2 rfl rfl) h2
  obtain ⟨v, rfl, _, _, hv⟩ := open_string Tryd.underlying9 (hval 3 9 v3 rfl rfl) h3'
  obtain ⟨u, rfl, _, _, hu⟩ := open_string Tryd.underlying9 (hval 4 9 v4 rfl rfl) h4
  have hl : ((List.range n).map f).length = n := by simp
  have hA' : Sl W W.heap.size 2 A n (fun i => rwV ((List.range n).map f)[i]!) := (hsl.less hn).congr fun i hi => by
    have : ((List.range n).map f)[i]! = f i := by simp [hi]
    simp only [this]; rfl
  have hz : ∀ x ∈ (List.range n).map f, x.1.size ≤ maxLen ∧ x.2.size ≤ maxLen := fun x hx => by
    obtain ⟨i, hi, rfl⟩ := List.mem_map.1 hx
    exact hwf i (Nat.lt_of_lt_of_le (List.mem_range.1 hi) hn)
  have hn' : n ≤ maxLen := Nat.le_trans hn hc
  have hnil' : A = none → n = 0 := fun h => (hnil h).1
  by_cases hab : a = b
  · subst hab
    exact Orders_eq A n c W a v u hT h3
  · by_cases hs : setC ((List.range n).map f) a v = 0 ∧ setC ((List.range n).map f) b u = 0
    · exact Orders_yes A n c _ W hA' hl hz hn' hnil' a b v u ha hb hv hu hT h3 hab hs.1 hs.2
    · exact Orders_no A n c _ W hA' hl hz hn' hnil' a b v u ha hb hv hu hT h3 hab hs

theorem SnapshotOrders_row : Rows.SnapshotOrdersSaid :=
  OpenClaim.holds_of_wide 3 Tryd.f3 rfl rfl rfl rfl rfl rfl rfl ⟨rfl, rfl, rfl, rfl, rfl⟩ rfl rfl rfl rfl rfl (by kernel_rfl) Tryd.func3 (by kernel_rfl)
    (of_decide_eq_true (by kernel_rfl)) (by unfold Func.isWrapper; rw [if_neg (of_decide_eq_false (by kernel_rfl))]; exact ⟨rfl, rfl⟩)
    (fun os started H enc _ => SnapshotOrders_lifted os started H enc)

theorem SnapshotOrders_holds : Rows.SnapshotOrdersCardSaid :=
  Claim7.holds_tied_plain_at .later [] [.data, .data, .data] true (true, "d4e8a51a2514cb0c90beadb1d217d9c2e98780b2d5a5878c2c4a8f9f43d2c7fc") false
    SnapshotOrders_row (fun _ h => by cases h) (by kernel_rfl) (fun _ h => by cases h) snapshotOrders_row_tie rfl ⟨rfl, rfl⟩ (by kernel_rfl) rfl
    (fun f fn hf hfn => by
      obtain rfl : f = 3 := Option.some.inj ((show Tryd.prog.funcNamed "skyway/skywaykeep4.SnapshotOrders" = some 3 by kernel_rfl).symm.trans hf) |>.symm
      obtain rfl : fn = Tryd.f3 := (Option.some.inj (Tryd.func3.symm.trans hfn)).symm
      exact ⟨by kernel_rfl, fun j t ht => by
        rw [Tryd.params3] at ht
        have hm : t ∈ [22, 9, 9, 9, 9] := by simpa using Array.mem_of_getElem? ht
        have hall : ([22, 9, 9, 9, 9].all fun u => !Tryd.prog.wantsStandIn u) = true := by kernel_rfl
        exact (show Tryd.prog.wantsStandIn t = false by simpa using List.all_eq_true.1 hall t hm)⟩)
    (by kernel_rfl)
end Go.Proofs.YtojnojjiblcmcaaDoor
