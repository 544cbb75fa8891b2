/- Contracts and plain words, part 20: texts OIn, Lf, W1, W2. -/
import Derived.Test.YtjmdcpcoliljfaaGreatDoorG01
import Derived.Test.YtjmdcpcoliljfaaGreatDoorG19
import Derived.Lib.SmallJoins
import Derived.OpenShut
import Derived.Test.YtjmdcpcoliljfaaGreatDoorTie
import Derived.Test.YtjmdcpcoliljfaaGreatDoorCards
import Derived.Stop.LaidErr
import Derived.Lib.LaidTab
import Derived.ChangeMaps5
import Derived.Carry
import Derived.Lay
import Derived.Shelf.Vars
import Derived.Test.YtjmdcpcoliljfaaGreatDoorG08
/- A setup and inputs handed in, opened. -/
namespace Go.Proofs.YtjmdcpcoliljfaaGreatDoor
open Go.ChangeShapes Go.WideShapes Go.ChangeAt Go.RowKit Go.Joins Go.Deep

theorem cells3 : Tryz.prog.cellsOf 3 = 1 := by kernel_rfl
theorem cells9 : Tryz.prog.cellsOf 9 = 1 := by kernel_rfl
theorem cells4 : Tryz.prog.cellsOf 4 = 1 := by kernel_rfl
theorem cells33 : Tryz.prog.cellsOf 33 = 1 := by kernel_rfl
theorem cells43 : Tryz.prog.cellsOf 43 = 2 := by kernel_rfl
theorem cells45 : Tryz.prog.cellsOf 45 = 4 := by kernel_rfl
theorem cells47 : Tryz.prog.cellsOf 47 = 6 := by kernel_rfl
theorem cells35 : Tryz.prog.cellsOf 35 = 9 := by kernel_rfl
theorem cells23 : Tryz.prog.cellsOf 23 = 2 := by kernel_rfl
theorem cells24 : Tryz.prog.cellsOf 24 = 4 := by kernel_rfl
theorem cells25 : Tryz.prog.cellsOf 25 = 16 := by kernel_rfl
theorem cells27 : Tryz.prog.cellsOf 27 = 18 := by kernel_rfl
theorem cell_at {w : World} {a : Addr} {k : Nat} {u : Value} (hs : a.spot = none) (h : w.cell? (a.add k) = some u) : w.cell? ⟨a.block, a.off + k, none⟩ = some u ∧ a.block < w.heap.size := by
  obtain ⟨ab, ao, sq⟩ := a
  have hs : sq = none := hs
  subst hs
  rw [Addr.add_mid] at h
  exact ⟨h, by have hh := World.block_lt_of_cell? w _ h; exact hh⟩
theorem spot_none {w : World} {a : Addr} {u : Value} (h : w.cell? (a.add 0) = some u) : a.spot = none := by
  obtain ⟨ab, ao, sq⟩ := a
  cases sq with
  | none => rfl
  | some s =>
    simp [Addr.add] at h
    simp [World.cell?] at h
    split at h <;> simp at h

section
variable {H : Type} {enc : TypeId × Value → H} {w : World}
/-- A slice whose elements are opened by a rule of their own. -/
theorem open_rowsG {α : Type} [Inhabited α] (row : α → List Value) (Q : α → Prop) (k : Nat) {t e : TypeId} (ht : Tryz.prog.underlying t = some (.slice e)) (hC : Tryz.prog.cellsOf e = k) (hk : 0 < k)
    (hrow : ∀ n cs x, DataW.trod enc Tryz.prog w 0 (fun _ => true) true n e cs = some x → ∃ a, cs = row a ∧ Q a) {fuel : Nat} {cs : List Value} {x : DataW H × List MemPlace} (h : DataW.trod enc Tryz.prog w 0 (fun _ => true) true fuel t cs = some x) :
    ∃ (A : Option Addr) (n c : Nat) (F : Nat → α), cs = [.slice A n c] ∧ n ≤ c ∧ c ≤ maxLen ∧ Sl w w.heap.size k A n (fun i => row (F i)) ∧ (∀ i, i < n → Q (F i)) ∧ (A = none → n = 0 ∧ c = 0) := by
  rcases open_slice ht h with ⟨hcs, _⟩ | ⟨a, len, cap, m, n, D, Pl, hcs, _, hl, hm, hmm, _, hi⟩
  · exact ⟨none, 0, 0, fun _ => default, hcs, Nat.le_refl _, by decide, Sl.none_, fun i hi => absurd hi (by omega), fun _ => ⟨rfl, rfl⟩⟩
  · simp at hmm
    have hex : ∀ i, ∃ x : α, i < cap → (w.rangeAt a.block (a.off + i * k) (row x) ∧ a.spot = none ∧ a.block < w.heap.size) ∧ Q x := by
      intro i
      by_cases hic : i < cap
      · obtain ⟨cs', hc, ht'⟩ := hi i (by omega)
        obtain ⟨x, rfl, hq⟩ := hrow _ _ _ ht'
        rw [hC] at hc
        obtain ⟨_, hlc, hat⟩ := World.cells?_some hc
        have hs : a.spot = none := by
          obtain ⟨cs0, hc0, _⟩ := hi 0 (by omega)
          rw [hC] at hc0
          obtain ⟨_, hl0, hat0⟩ := World.cells?_some hc0
          have h00 := hat0 0 hk
          rw [Nat.zero_mul, Go.Deep.add_add] at h00
          cases hcs : cs0[0]? with
          | none => rw [List.getElem?_eq_none_iff] at hcs; omega
          | some u => rw [hcs] at h00; exact spot_none h00
        have hcell : ∀ j v, (row x)[j]? = some v → w.cell? ⟨a.block, a.off + (i * k + j), none⟩ = some v ∧ a.block < w.heap.size := fun j v hv => by
          have hj : j < k := by rw [← hlc]; exact (List.getElem?_eq_some_iff.1 hv).1
          have h1 := hat j hj
          rw [Go.Deep.add_add, hv] at h1
          exact cell_at hs h1
        have hb : a.block < w.heap.size := by
          have : (row x)[0]? = some ((row x)[0]'(by omega)) := List.getElem?_eq_getElem (by omega)
          exact (hcell 0 _ this).2
        refine ⟨x, fun _ => ⟨⟨fun j v hv => ?_, hs, hb⟩, hq⟩⟩
        have := (hcell j v hv).1
        rwa [← Nat.add_assoc] at this
      · exact ⟨default, fun h => absurd h hic⟩
    refine ⟨some a, len, cap, fun i => (hex i).choose, hcs, hl, hm, fun h0 => ?_, fun i hi => ((hex i).choose_spec (by omega)).2, fun h => by cases h⟩
    obtain ⟨ab, ao, sq⟩ := a
    obtain ⟨⟨_, hs, hb⟩, _⟩ := (hex 0).choose_spec (by omega)
    have hs : sq = none := hs
    subst hs
    exact ⟨ab, ao, rfl, hb, fun i hi => ((hex i).choose_spec (by omega)).1.1⟩


set_option maxRecDepth 100000 in
theorem open_i {n : Nat} {c : Value} {x : DataW H × List MemPlace} (h : DataW.trod enc Tryz.prog w 0 (fun _ => true) true n 3 [c] = some x) : ∃ a : Int, c = .int .i64 a := by
  obtain ⟨a, e, _, _⟩ := DataW.trod_int Tryz.underlying3 h
  exact ⟨a, by simpa using e⟩
set_option maxRecDepth 100000 in
theorem open_s {n : Nat} {c : Value} {x : DataW H × List MemPlace} (h : DataW.trod enc Tryz.prog w 0 (fun _ => true) true n 9 [c] = some x) : ∃ a : ByteArray, c = .string a ∧ a.size ≤ maxLen := by
  obtain ⟨a, e, _, hs⟩ := DataW.trod_string Tryz.underlying9 h
  exact ⟨a, by simpa using e, hs⟩
set_option maxRecDepth 100000 in
theorem open_b {n : Nat} {c : Value} {x : DataW H × List MemPlace} (h : DataW.trod enc Tryz.prog w 0 (fun _ => true) true n 4 [c] = some x) : ∃ a : Bool, c = .bool a := by
  obtain ⟨a, e, _⟩ := DataW.trod_bool Tryz.underlying4 h
  exact ⟨a, by simpa using e⟩
set_option maxRecDepth 100000 in
theorem open_pt {n : Nat} {c d : Value} {x : DataW H × List MemPlace} (h : DataW.trod enc Tryz.prog w 0 (fun _ => true) true n 43 [c, d] = some x) : ∃ a b : Int, c = .int .i64 a ∧ d = .int .i64 b := by
  obtain ⟨z0, z1, m, hz, _, k0, k1⟩ := trod_struct2 Tryz.underlying43 h
  simp only [cells3] at k0 k1
  obtain ⟨a, ha⟩ := open_i k0
  obtain ⟨b, hb⟩ := open_i k1
  exact ⟨a, b, ha, hb⟩
set_option maxRecDepth 100000 in
theorem open_node {n : Nat} {cs : List Value} {x : DataW H × List MemPlace} (h : DataW.trod enc Tryz.prog w 0 (fun _ => true) true n 47 cs = some x) : ∃ q : Nd, cs = ndV q ∧ True := by
  obtain ⟨y0, y1, y2, m, _, hl, k0, k1, k2⟩ := trod_struct3 Tryz.underlying47 h
  rw [cells47] at hl
  match cs, hl with
  | [c0, c1, c2, c3, c4, c5], _ =>
    simp only [cells3, cells45] at k0 k1 k2
    obtain ⟨z0, z1, z2, m', _, _, l0, l1, l2⟩ := trod_struct3 Tryz.underlying45 k0
    simp only [cells3, cells43] at l0 l1 l2
    obtain ⟨a0, rfl⟩ := open_i l0
    obtain ⟨a1, a2, rfl, rfl⟩ := open_pt l1
    obtain ⟨a3, rfl⟩ := open_i l2
    obtain ⟨a4, rfl⟩ := open_i k1
    obtain ⟨a5, rfl⟩ := open_i k2
    exact ⟨⟨a0, a1, a2, a3, a4, a5⟩, rfl, trivial⟩
theorem list9 {α : Type} {l : List α} (h : l.length = 9) : ∃ c0 c1 c2 c3 c4 c5 c6 c7 c8, l = [c0, c1, c2, c3, c4, c5, c6, c7, c8] := by
  match l, h with
  | [c0, c1, c2, c3, c4, c5, c6, c7, c8], _ => exact ⟨c0, c1, c2, c3, c4, c5, c6, c7, c8, rfl⟩
theorem fam_at {α : Type} [Inhabited α] {n : Nat} (F : Nat → α) {i : Nat} (h : i < n) : ((List.range n).map F)[i]! = F i := by
  rw [getElem!_pos _ i (by simpa using h)]
  simp
/-- What is known of an input handed in. -/
def InQ (w : World) (p : Inp × Hd) : Prop := TuN w.heap.size p.2 p.1.tube w ∧ InB p.1
set_option maxRecDepth 100000 in
theorem open_inp {n : Nat} {cs : List Value} {x : DataW H × List MemPlace} (h : DataW.trod enc Tryz.prog w 0 (fun _ => true) true n 35 cs = some x) : ∃ p : Inp × Hd, cs = inV p.1 p.2 ∧ InQ w p := by
  obtain ⟨ys, n', _, _, hl, hyl, hf⟩ := DataW.trod_struct Tryz.underlying35 h
  rw [cells35] at hl
  obtain ⟨c0, c1, c2, c3, c4, c5, c6, c7, c8, rfl⟩ := list9 hl
  have hy : ∀ i, i < 9 → ∃ y, ys[i]? = some y := fun i hi => ⟨_, List.getElem?_eq_getElem (by rw [hyl]; exact hi)⟩
  have k0 := hf 0 _ rfl
  have k1 := hf 1 _ rfl
  have k2 := hf 2 _ rfl
  have k3 := hf 3 _ rfl
  have k4 := hf 4 _ rfl
  have k5 := hf 5 _ rfl
  have k6 := hf 6 _ rfl
  have k7 := hf 7 _ rfl
  have k8 := hf 8 _ rfl
  simp only [List.getElem_toArray, List.getElem_cons_zero, List.getElem_cons_succ, cells3, cells9, cells33, cells4] at k0 k1 k2 k3 k4 k5 k6 k7 k8
  obtain ⟨y0, e0⟩ := hy 0 (by omega)
  obtain ⟨y1, e1⟩ := hy 1 (by omega)
  obtain ⟨y2, e2⟩ := hy 2 (by omega)
  obtain ⟨y3, e3⟩ := hy 3 (by omega)
  obtain ⟨y4, e4⟩ := hy 4 (by omega)
  obtain ⟨y5, e5⟩ := hy 5 (by omega)
  obtain ⟨y6, e6⟩ := hy 6 (by omega)
  obtain ⟨y7, e7⟩ := hy 7 (by omega)
  obtain ⟨y8, e8⟩ := hy 8 (by omega)
  obtain ⟨a0, rfl⟩ := open_i (k0.trans e0)
  obtain ⟨a1, rfl⟩ := open_i (k1.trans e1)
  obtain ⟨a2, rfl, b2⟩ := open_s (k2.trans e2)
  obtain ⟨a3, rfl, b3⟩ := open_s (k3.trans e3)
  obtain ⟨a4, rfl, b4⟩ := open_s (k4.trans e4)
  obtain ⟨A, m, c, F, hA, hmc, hc, hS, _, _⟩ := open_rowsG ndV (fun _ => True) 6 Tryz.underlying33 cells47 (by decide) (fun n cs x h => open_node h) (k5.trans e5)
  have hA : c5 = .slice A m c := by
    have : [c5] = [Value.slice A m c] := hA
    simpa using this
  subst hA
  obtain ⟨a6, rfl⟩ := open_i (k6.trans e6)
  obtain ⟨a7, rfl⟩ := open_i (k7.trans e7)
  obtain ⟨a8, rfl⟩ := open_b (k8.trans e8)
  refine ⟨(⟨a0, a1, a2, a3, a4, (List.range m).map F, a6, a7, a8⟩, ⟨A, m, c⟩), rfl, ⟨by simp, hS.congr fun i hi => by rw [fam_at F hi]⟩, b2, b3, b4, by simp; omega⟩
set_option maxRecDepth 100000 in
theorem open_inps {base : Nat} {r : Reach} {v : Value} {d : DataW H} {p : List MemPlace} (hv : Value.okWide Tryz.prog w r base 28 v) (h : DataW.Trod enc Tryz.prog w 0 (fun _ => true) true 28 v d p) :
    ∃ (A : Option Addr) (n c : Nat) (l : List Inp) (hs : List Hd), v = .slice A n c ∧ InsA w.heap.size A n l hs w ∧ n ≤ c ∧ c ≤ maxLen ∧ (A = none → n = 0 ∧ c = 0) := by
  obtain ⟨fuel, hf⟩ := h
  obtain ⟨A, n, c, F, hA, hnc, hc, hS, hQ, hnil⟩ := open_rowsG (fun p : Inp × Hd => inV p.1 p.2) (InQ w) 9 Tryz.underlying28 cells35 (by decide) (fun n cs x h => open_inp h) hf
  refine ⟨A, n, c, (List.range n).map fun i => (F i).1, (List.range n).map fun i => (F i).2, ?_, ⟨by simp, by simp, hS.congr fun i hi => by rw [fam_at _ hi, fam_at _ hi], fun i hi => by rw [fam_at _ hi, fam_at _ hi]; exact (hQ i hi).1, fun i hi => by rw [fam_at _ hi]; exact (hQ i hi).2⟩, hnc, hc, hnil⟩
  obtain ⟨A', n', c', rfl, _⟩ := okWide_slice Tryz.underlying28 hv
  simpa [Value.cells] using hA
set_option maxRecDepth 100000 in
theorem open_setup {base : Nat} {r : Reach} {v : Value} {d : DataW H} {p : List MemPlace} (hv : Value.okWide Tryz.prog w r base 27 v) (h : DataW.Trod enc Tryz.prog w 0 (fun _ => true) true 27 v d p) : ∃ S : Su, v = suA S := by
  obtain ⟨G, rfl, hsz⟩ : ∃ cs, v = .agg cs ∧ cs.size = Tryz.prog.cellsOf 27 := by
    simp only [Value.okWide, Tryz.underlying27] at hv
    obtain ⟨cs, h1, h2, _⟩ := hv
    exact ⟨cs, h1, h2⟩
  rw [cells27] at hsz
  obtain ⟨fuel, hf⟩ := h
  obtain ⟨y0, y1, m, _, _, k0, k1⟩ := trod_struct2 Tryz.underlying27 hf
  dsimp only at k0 k1
  rw [cells23] at k0
  rw [cells25] at k1
  obtain ⟨z0, z1, m0, _, _, l0, l1⟩ := trod_struct2 Tryz.underlying23 k0
  dsimp only at l0 l1
  rw [cells3] at l0 l1
  obtain ⟨xs, m1, _, _, _, hlen, hx⟩ := DataW.trod_array Tryz.underlying25 k1
  have hc : ∀ i, i < 18 → ∃ q : Int, G[i]? = some (.int .i64 q) := by
    intro i hi
    rcases (show i = 0 ∨ i = 1 ∨ 2 ≤ i by omega) with e | e | e
    · subst e
      obtain ⟨q, e, _⟩ := DataW.trod_int Tryz.underlying3 l0
      refine ⟨q, ?_⟩
      have e' := congrArg (·[0]?) e
      simpa [Value.cells, List.getElem?_take, List.getElem?_drop] using e'
    · subst e
      obtain ⟨q, e, _⟩ := DataW.trod_int Tryz.underlying3 l1
      refine ⟨q, ?_⟩
      have e' := congrArg (·[0]?) e
      simpa [Value.cells, List.getElem?_take, List.getElem?_drop] using e'
    · have h1 := hx ((i - 2) / 4) (by omega)
      rw [List.getElem?_eq_getElem (by omega)] at h1
      obtain ⟨ys, m', _, _, _, hlen', hy⟩ := DataW.trod_array Tryz.underlying24 h1
      have h2 := hy ((i - 2) % 4) (by omega)
      rw [List.getElem?_eq_getElem (by omega)] at h2
      obtain ⟨q, e, _⟩ := DataW.trod_int Tryz.underlying3 h2
      rw [cells24, cells3] at e
      refine ⟨q, ?_⟩
      have e' := congrArg (·[0]?) e
      simp only [Value.cells, List.getElem?_take, List.getElem?_drop, List.getElem?_cons_zero] at e'
      rw [if_pos (by omega), if_pos (by omega), if_pos (by omega)] at e'
      rw [show 2 + ((i - 2) / 4 * 4 + ((i - 2) % 4 * 1 + 0)) = i by omega] at e'
      simpa using e'
  obtain ⟨q, hq⟩ : ∃ q : Nat → Int, ∀ i, i < 18 → G[i]? = some (.int .i64 (q i)) := ⟨fun i => if h : i < 18 then (hc i h).choose else 0, fun i hi => by simp only [dif_pos hi]; exact (hc i hi).choose_spec⟩
  refine ⟨⟨q 0, q 1, fun i => q (i + 2)⟩, ?_⟩
  unfold suA setupA
  congr 1
  apply Array.ext_getElem?
  intro i
  by_cases hi : i < 18
  · rw [hq i hi]
    match i, hi with
    | 0, _ => rfl
    | 1, _ => rfl
    | 2, _ => rfl
    | 3, _ => rfl
    | 4, _ => rfl
    | 5, _ => rfl
    | 6, _ => rfl
    | 7, _ => rfl
    | 8, _ => rfl
    | 9, _ => rfl
    | 10, _ => rfl
    | 11, _ => rfl
    | 12, _ => rfl
    | 13, _ => rfl
    | 14, _ => rfl
    | 15, _ => rfl
    | 16, _ => rfl
    | 17, _ => rfl
    | k + 18, h => exact absurd h (by omega)
  · rw [Array.getElem?_eq_none (by omega), Array.getElem?_eq_none (by simp; omega)]
end
end Go.Proofs.YtjmdcpcoliljfaaGreatDoor

/- What the listed variables give. -/
namespace Go.Proofs.YtjmdcpcoliljfaaGreatDoor
open Go.ChangeShapes Go.WideShapes Go.ChangeAt Go.RowKit Go.ChangeMaps

abbrev laid7 : List (String × DataW Unit) := [("unicode/utf8.acceptRanges", Rows.laid_unicode_utf8_acceptRanges), ("skyway/centre.kinds", Rows.laid_skyway_centre_kinds), ("unicode/utf8.first", Rows.laid_unicode_utf8_first)]

set_option maxRecDepth 100000 in
theorem door_met (os : Os) (args : Array Value) : laidMetH Tryz.prog laid7 ((World.laidAll Tryz.prog os laid7).forCall (fun _ _ => 0) ⟨#[], args, []⟩).memory := by
  rw [MakeChecks.laidMetH_plain _ _ _ (by kernel_rfl)]
  exact laidMet_laidAll _ (by kernel_rfl) (by kernel_rfl)
theorem gKinds : Tryz.prog.globalNamed "skyway/centre.kinds" = some 0 := by kernel_rfl
theorem str_of_data {s : ByteArray} {k : List UInt8} (h : s.data.toList = k) : s = ⟨k.toArray⟩ := by
  obtain ⟨d⟩ := s
  have h : d.toList = k := h
  subst h
  simp
set_option maxRecDepth 100000 in
theorem ks_of {W : World} (h : laidMetH Tryz.prog laid7 W) : KsAt kindsS W ∧ 0 < W.heap.size := by
  rw [MakeChecks.laidMetH_plain _ _ _ (by kernel_rfl)] at h
  obtain ⟨ps, ⟨g', t', cs, fuel, p, q, hg', ht', hvar, hd, _, _⟩, _⟩ := h.tail
  obtain rfl := Option.some.inj (gKinds.symm.trans hg')
  have hty : (Tryz.prog.globals[0]?).map (·.type) = some 108 := by kernel_rfl
  obtain rfl := Option.some.inj (hty.symm.trans ht')
  obtain ⟨xs, m, _, hx, hl, hxl, hf⟩ := DataW.trod_array Tryz.underlying108 hd
  have hc9 : Tryz.prog.cellsOf 9 = 1 := by kernel_rfl
  have key : ∀ i (k : List UInt8), i < 7 → (xs.map (·.1))[i]? = some (.lit (.string k)) → W.cell? ⟨0, i, none⟩ = some (.string ⟨k.toArray⟩) := fun i k hi hk => by
    have h1 := hf i hi
    rw [List.getElem?_map] at hk
    cases hxi : xs[i]? with
    | none => rw [hxi] at hk; cases hk
    | some y =>
      rw [hxi] at h1 hk
      obtain ⟨s, e, ey, _⟩ := DataW.trod_string Tryz.underlying9 h1
      rw [ey] at hk
      have hk : s.data.toList = k := by simpa using hk
      rw [hc9, Nat.mul_one] at e
      have e0 := congrArg (·[0]?) e
      simp only [List.getElem?_take, List.getElem?_drop] at e0
      have e1 : cs[i]? = some (.string s) := by simpa using e0
      rw [World.var?_cell gKinds hvar i, e1, str_of_data hk]
  have hx' : xs.map (·.1) = [.lit (.string [102, 105, 108, 101]), .lit (.string [111, 102, 102, 101, 114]), .lit (.string [97, 99, 99, 101, 112, 116]), .lit (.string [99, 108, 101, 97, 114]), .lit (.string [104, 101, 97, 114]), .lit (.string [114, 101, 102, 117, 115, 101]), .lit (.string [101, 110, 100])] := by
    have h1 := congrArg Prod.fst hx
    have h2 : (DataW.agg (xs.map (·.1)) : DataW Unit) = Rows.laid_skyway_centre_kinds := h1.symm
    unfold Rows.laid_skyway_centre_kinds at h2
    injection h2
  rw [hx'] at key
  have hks : KsAt kindsS W := fun i hi => by
    rcases (show i = 0 ∨ i = 1 ∨ i = 2 ∨ i = 3 ∨ i = 4 ∨ i = 5 ∨ i = 6 by omega) with e | e | e | e | e | e | e <;> subst e <;> exact key _ _ (by decide) rfl
  refine ⟨hks, ?_⟩
  have := World.block_lt_of_cell? W _ (hks 0 (by decide))
  exact this
end Go.Proofs.YtjmdcpcoliljfaaGreatDoor

/- Plain law: what holds for all flights of a centre, and for two of them, whatever is given. -/
namespace Go.Proofs.YtjmdcpcoliljfaaGreatDoor
open Go.RowKit

structure Pw (one : Fl → Prop) (two : Fl → Fl → Prop) (l : List Fl) : Prop where
  o : ∀ f ∈ l, one f
  t : ∀ f ∈ l, ∀ g ∈ l, f.call ≠ g.call → two f g
section
variable {one : Fl → Prop} {two : Fl → Fl → Prop} {l l' : List Fl}
theorem Pw.nil : Pw one two [] := ⟨fun f h => absurd h (by simp), fun f h => absurd h (by simp)⟩
theorem Pw.sub (h : Pw one two l) (hm : ∀ g ∈ l', g ∈ l) : Pw one two l' := ⟨fun f hf => h.o f (hm f hf), fun f hf g hg hn => h.t f (hm f hf) g (hm g hg) hn⟩
theorem Pw.put (h : Pw one two l) {f' : Fl} (hm : ∀ g ∈ l', g = f' ∨ g ∈ l) (h1 : one f') (h2 : ∀ g ∈ l, g.call ≠ f'.call → two f' g ∧ two g f') : Pw one two l' := by
  refine ⟨fun f hf => ?_, fun f hf g hg hn => ?_⟩
  · rcases hm f hf with rfl | hf
    · exact h1
    · exact h.o f hf
  · rcases hm f hf with rfl | hf
    · rcases hm g hg with rfl | hg
      · exact absurd rfl hn
      · exact (h2 g hg (fun e => hn e.symm)).1
    · rcases hm g hg with rfl | hg
      · exact (h2 f hf hn).2
      · exact h.t f hf g hg hn
end
theorem mem_insF {l : List Fl} {p : Nat} {f g : Fl} (h : g ∈ insF l p f) : g = f ∨ g ∈ l := by
  unfold insF at h
  rcases List.mem_append.1 h with h | h
  · exact .inr (List.mem_of_mem_take h)
  · rcases List.mem_cons.1 h with h | h
    · exact .inl h
    · exact .inr (List.mem_of_mem_drop h)
theorem mem_setL {l : List Fl} {p : Nat} {f g : Fl} (h : g ∈ l.set p f) : g = f ∨ g ∈ l := by
  rcases List.mem_or_eq_of_mem_set h with h | h
  · exact .inr h
  · exact .inl h
theorem flOf_call {c : Ce} (h : CeOk c) {x : Inp} (hi : isO c.ow x.call = true) : (flOf c x).call = x.call := by
  obtain ⟨hp, _, _⟩ := flOf_mem h hi
  have h1 := isO_spec hi
  have h2 := congrArg (fun l => l[lowO c.ow x.call]?) h.calls
  simp only [List.getElem?_map] at h2
  rw [List.getElem?_eq_getElem hp, List.getElem?_eq_getElem h1.1] at h2
  simp only [Option.map_some, Option.some.injEq] at h2
  unfold flOf
  rw [getElem!_pos c.fl _ hp, h2, ← getElem!_pos c.ow _ h1.1]
  exact h1.2
/-- An input keeps what holds of one and of two flights. -/
theorem step_pw {S : Su} {c : Ce} (hc : CeOk c) (ks : Nat → ByteArray) (x : Inp) {one : Fl → Prop} {two : Fl → Fl → Prop} (h : Pw one two c.fl)
    (hfile : fileE S c x = 0 → one (newF S c x) ∧ ∀ g ∈ c.fl, g.call ≠ x.call → two (newF S c x) g ∧ two g (newF S c x))
    (hclear : clearE S c x = 0 → FlOk (flOf c x) → one (flOf c x) → one (clearF S c x) ∧ ∀ g ∈ c.fl, g.call ≠ x.call → two (flOf c x) g → two g (flOf c x) → two (clearF S c x) g ∧ two g (clearF S c x))
    (hhear : hearE c x = 0 → FlOk (flOf c x) → one (flOf c x) → one (hearF c x) ∧ ∀ g ∈ c.fl, g.call ≠ x.call → two (flOf c x) g → two g (flOf c x) → two (hearF c x) g ∧ two g (hearF c x))
    (hrefuse : refuseE c x = 0 → FlOk (flOf c x) → one (flOf c x) → one (refuseF c x) ∧ ∀ g ∈ c.fl, g.call ≠ x.call → two (flOf c x) g → two g (flOf c x) → two (refuseF c x) g ∧ two g (refuseF c x)) :
    Pw one two (stepP ks S c x).1.fl := by
  have hset : ∀ {f' : Fl}, isO c.ow x.call = true → f'.call = (flOf c x).call → (one (flOf c x) → one f' ∧ ∀ g ∈ c.fl, g.call ≠ x.call → two (flOf c x) g → two g (flOf c x) → two f' g ∧ two g f') → Pw one two (c.fl.set (lowO c.ow x.call) f') := fun {f'} hi he hk => by
    obtain ⟨hp, hm, hf⟩ := flOf_mem hc hi
    have hcl := flOf_call hc hi
    obtain ⟨k1, k2⟩ := hk (h.o _ hm)
    refine h.put (fun g hg => mem_setL hg) k1 fun g hg hn => ?_
    rw [he, hcl] at hn
    exact k2 g hg hn (h.t _ hm _ hg (by rw [hcl]; exact fun e => hn e.symm)) (h.t _ hg _ hm (by rw [hcl]; exact hn))
  have hm : Pw one two (methP S c x).1.fl := by
    unfold methP
    split
    · split
      · rename_i h1
        have h2 := hfile h1
        exact h.put (fun g hg => mem_insF hg) h2.1 h2.2
      · exact h
    split
    · exact h
    split
    · exact h
    split
    · split
      · rename_i h1
        have h2 := clearE_zero h1
        exact hset h2.1 rfl (hclear h1 (flOf_mem hc h2.1).2.2)
      · exact h
    split
    · split
      · rename_i h1
        have h2 := hearE_zero h1
        exact hset h2.1 rfl (hhear h1 (flOf_mem hc h2.1).2.2)
      · exact h
    split
    · split
      · rename_i h1
        have h2 := refuseE_zero h1
        exact hset h2.1 rfl (hrefuse h1 (flOf_mem hc h2.1).2.2)
      · exact h
    split
    · exact h.sub fun g hg => mem_delL hg
    · exact h
  unfold stepP
  split
  · exact h
  split
  · exact h
  split
  · exact hm
  · exact h

/-- Landing. -/
def lastL (f : Fl) : Tu := f.legs[f.legs.length - 1]!
def timesP (f : Fl) (t : Int) : Prop := t = f.land ∨ (0 < f.next.length ∧ t = f.nland)
structure LandOne (f : Fl) : Prop where
  no : f.lands = false → f.land = 0 ∧ f.nland = 0
  l1 : f.lands = true → lstT (lastL f) ≤ f.land ∧ f.land ≤ f.slot
  l2 : f.lands = true → f.nland ≤ f.slot
  l3 : f.lands = true → 0 < f.next.length → lstT f.next ≤ f.nland
def LandTwo (S : Su) (f g : Fl) : Prop := f.lands = true → g.lands = true → ∀ t u, timesP f t → timesP g u → nearU S g.wake.toNat f.wake.toNat t u = false
theorem nearU_symm (S : Su) (a b : Nat) (t u : Int) : nearU S a b t u = nearU S b a u t := by unfold nearU; rw [Bool.and_comm]
theorem freeP_at {S : Su} {fl : List Fl} {call : ByteArray} {k : Nat} {t : Int} (h : freeP S fl call k t = true) {g : Fl} (hg : g ∈ fl) (hn : g.call ≠ call) (hl : g.lands = true) {u : Int} (hu : timesP g u) : nearU S g.wake.toNat k t u = false := by
  unfold freeP at h
  rw [Bool.not_eq_true', List.any_eq_false] at h
  have h1 := h g hg
  unfold nearF at h1
  rw [hl, decide_eq_false hn] at h1
  simp only [Bool.not_false, Bool.true_and, Bool.or_eq_true, Bool.and_eq_true, decide_eq_true_eq, not_or, not_and, Bool.not_eq_true] at h1
  rcases hu with rfl | ⟨h0, rfl⟩
  · exact h1.1
  · exact h1.2 h0
theorem land_two {S : Su} {f g : Fl} (h : ∀ t u, f.lands = true → g.lands = true → timesP f t → timesP g u → nearU S g.wake.toNat f.wake.toNat t u = false) : LandTwo S f g ∧ LandTwo S g f :=
  ⟨fun h1 h2 t u h3 h4 => h t u h1 h2 h3 h4, fun h1 h2 t u h3 h4 => by rw [nearU_symm]; exact h u t h2 h1 h4 h3⟩
theorem step_land {S : Su} (hS : SuOk S) {c : Ce} (hc : CeOk c) (ks : Nat → ByteArray) (x : Inp) (h : Pw LandOne (LandTwo S) c.fl) : Pw LandOne (LandTwo S) (stepP ks S c x).1.fl := by
  have hfree : ∀ {wk : Int} {l : Tu}, (0 ≤ wk ∧ wk ≤ 3) → TuOk l → freeP S c.fl x.call wk.toNat (landP S c.fl x.call wk l) = true := fun {wk l} hw hl => by
    obtain ⟨j, h1, h2, h3, _⟩ := landP_spec hS hc.fl x.call hw hl.lst0 hl.lst1
    rw [h2]; exact h3
  refine step_pw hc ks x h (fun h1 => ?_) (fun h1 hf h2 => ?_) (fun h1 hf h2 => ?_) (fun h1 hf h2 => ?_)
  · obtain ⟨k1, k2, k3, k4, k5, k6, k7, k8⟩ := fileE_zero h1
    refine ⟨⟨fun hl => ?_, fun hl => ?_, fun hl => ?_, fun hl h0 => absurd h0 (by simp [newF])⟩, fun g hg hn => ?_⟩
    · have hl' : x.lands = false := hl
      simp [newF, hl']
    · have hl' : x.lands = true := hl
      have := landP_ge S c.fl x.call x.wake x.tube
      have := k8 hl'
      simp only [newF, lastL, if_pos hl']
      exact ⟨by simpa using landP_ge S c.fl x.call x.wake x.tube, this⟩
    · show (0 : Int) ≤ x.slot
      exact k4.1
    · refine land_two fun t u hl1 hl2 ht hu => ?_
      have hl' : x.lands = true := hl1
      rcases ht with rfl | ⟨h0, _⟩
      · have hx : (newF S c x).land = landP S c.fl x.call x.wake x.tube := by simp only [newF, if_pos hl']
        rw [hx]
        exact freeP_at (hfree k3 k2) hg hn hl2 hu
      · exact absurd h0 (by simp [newF])
  · obtain ⟨k1, k2, k3, k4, k5, k6, k7, k8, k9, k10⟩ := clearE_zero h1
    refine ⟨⟨fun hl => ?_, fun hl => h2.l1 hl, fun hl => ?_, fun hl h0 => ?_⟩, fun g hg hn t1 t2 => ?_⟩
    · have hl' : (flOf c x).lands = false := hl
      exact ⟨(h2.no hl').1, by simp [clearF, hl']⟩
    · have hl' : (flOf c x).lands = true := hl
      simp only [clearF, if_pos hl']
      exact k10 hl'
    · have hl' : (flOf c x).lands = true := hl
      simp only [clearF, if_pos hl']
      exact landP_ge _ _ _ _ _
    · refine land_two fun t u hl1 hl2 ht hu => ?_
      have hl' : (flOf c x).lands = true := hl1
      rcases ht with rfl | ⟨h0, rfl⟩
      · exact t1 hl1 hl2 _ u (.inl rfl) hu
      · have hx : (clearF S c x).nland = landP S c.fl x.call (flOf c x).wake x.tube := by simp only [clearF, if_pos hl']
        rw [hx]
        exact freeP_at (hfree hf.wk k5) hg hn hl2 hu
  · obtain ⟨k1, k2, k3⟩ := hearE_zero h1
    refine ⟨⟨fun hl => ⟨(h2.no hl).2, rfl⟩, fun hl => ⟨?_, h2.l2 hl⟩, fun hl => ?_, fun hl h0 => absurd h0 (by simp [hearF])⟩, fun g hg hn t1 t2 => ?_⟩
    · have e : lastL (hearF c x) = (flOf c x).next := by
        unfold lastL hearF
        simp only [List.length_append, List.length_singleton, Nat.add_sub_cancel]
        rw [snoc_at, if_pos rfl]
      rw [e]
      exact h2.l3 hl k2
    · show (0 : Int) ≤ (flOf c x).slot
      exact hf.sl.1
    · refine land_two fun t u hl1 hl2 ht hu => ?_
      rcases ht with rfl | ⟨h0, _⟩
      · exact t1 hl1 hl2 _ u (.inr ⟨k2, rfl⟩) hu
      · exact absurd h0 (by simp [hearF])
  · refine ⟨⟨fun hl => ⟨(h2.no hl).1, rfl⟩, fun hl => h2.l1 hl, fun hl => ?_, fun hl h0 => absurd h0 (by simp [refuseF])⟩, fun g hg hn t1 t2 => ?_⟩
    · show (0 : Int) ≤ (flOf c x).slot
      exact hf.sl.1
    · refine land_two fun t u hl1 hl2 ht hu => ?_
      rcases ht with rfl | ⟨h0, _⟩
      · exact t1 hl1 hl2 _ u (.inl rfl) hu
      · exact absurd h0 (by simp [refuseF])

/-- Where a leg begins, it contains what the leg before has. -/
def JoinAt (a b : Tu) : Prop := insN (atN a (fstT b)) b = true ∧ fstT a ≤ fstT b ∧ fstT b ≤ lstT a
structure JoinOne (f : Fl) : Prop where
  legs : ∀ k, 0 < k → k < f.legs.length → JoinAt f.legs[k - 1]! f.legs[k]!
  next : 0 < f.next.length → JoinAt (lastL f) f.next
theorem step_join {S : Su} {c : Ce} (hc : CeOk c) (ks : Nat → ByteArray) (x : Inp) (h : Pw JoinOne (fun _ _ => True) c.fl) : Pw JoinOne (fun _ _ => True) (stepP ks S c x).1.fl := by
  refine step_pw hc ks x h (fun h1 => ⟨?_, fun _ _ _ => ⟨trivial, trivial⟩⟩) (fun h1 hf h2 => ⟨?_, fun _ _ _ _ _ => ⟨trivial, trivial⟩⟩) (fun h1 hf h2 => ⟨?_, fun _ _ _ _ _ => ⟨trivial, trivial⟩⟩) (fun h1 hf h2 => ⟨?_, fun _ _ _ _ _ => ⟨trivial, trivial⟩⟩)
  · exact ⟨fun k h0 hk => absurd hk (by simp [newF]; omega), fun h0 => absurd h0 (by simp [newF])⟩
  · obtain ⟨k1, k2, k3, k4, k5, k6, k7, k8, k9, k10⟩ := clearE_zero h1
    exact ⟨h2.legs, fun _ => ⟨k8, by have := k6.2.1; show fstT (flOf c x).legs[(flOf c x).legs.length - 1]! ≤ fstT x.tube; omega, k6.2.2⟩⟩
  · obtain ⟨k1, k2, k3⟩ := hearE_zero h1
    refine ⟨fun k h0 hk => ?_, fun h0 => absurd h0 (by simp [hearF])⟩
    have h0' := hf.n0
    simp only [hearF, List.length_append, List.length_singleton] at hk ⊢
    rw [snoc_at, snoc_at, if_neg (by omega)]
    split
    · rename_i e; subst e; exact h2.next k2
    · exact h2.legs k h0 (by omega)
  · exact ⟨h2.legs, fun h0 => absurd h0 (by simp [refuseF])⟩

/-- All places of two flights are separated. -/
def SafeTwo (S : Su) (f g : Fl) : Prop := ∀ t n m, n ∈ placesP f t → m ∈ placesP g t → sepN n m S.lat S.vert = true
theorem sepN_symm (p q : Nd) (a b : Int) : sepN p q a b = sepN q p a b := by
  unfold sepN sqI
  rw [show a + p.r + q.r = a + q.r + p.r by omega, show b + p.b + q.b = b + q.b + p.b by omega, Int.max_comm (p.h - q.h), show p.x - q.x = -(q.x - p.x) by omega, show p.y - q.y = -(q.y - p.y) by omega, Int.neg_mul_neg, Int.neg_mul_neg]
theorem safe_two {S : Su} {f g : Fl} (h : ∀ t n m, n ∈ placesP f t → m ∈ placesP g t → sepN n m S.lat S.vert = true) : SafeTwo S f g ∧ SafeTwo S g f :=
  ⟨h, fun t n m hn hm => by rw [sepN_symm]; exact h t m n hm hn⟩
theorem nodeAt_mem {l : Tu} {t : Int} {n : Nd} (h : n ∈ nodeAt l t) : TuOk l ∧ fstT l ≤ t ∧ t ≤ lstT l ∧ n = atN l t := by
  unfold nodeAt at h
  by_cases h0 : (tubeAt l t).2 = 0
  · rw [if_pos h0, List.mem_singleton] at h
    unfold tubeAt at h0 h
    by_cases h1 : tuE l ≠ 0
    · rw [if_pos h1] at h0; exact absurd h0 h1
    · rw [if_neg h1] at h0 h
      by_cases h2 : t < fstT l ∨ lstT l < t
      · rw [if_pos h2] at h0; cases h0
      · rw [if_neg h2] at h
        exact ⟨tuOk_of (by omega), by omega, by omega, h⟩
  · rw [if_neg h0] at h; cases h
theorem nodeAt_in {l : Tu} (hl : TuOk l) {t : Int} (h0 : fstT l ≤ t) (h1 : t ≤ lstT l) : nodeAt l t = [atN l t] := by
  have e : tubeAt l t = (atN l t, 0) := by
    unfold tubeAt
    rw [hl.e, if_neg (by simp), if_neg (by omega)]
  unfold nodeAt
  rw [e]; rfl
theorem clash_no {S : Su} {fl : List Fl} {call : ByteArray} {l : Tu} (h : clashP S fl call l = false) {g : Fl} (hg : g ∈ fl) (hn : g.call ≠ call) {t : Int} {n m : Nd} (h1 : n ∈ nodeAt l t) (h2 : m ∈ placesP g t) : sepN n m S.lat S.vert = true := by
  obtain ⟨hl, k0, k1, rfl⟩ := nodeAt_mem h1
  unfold clashP at h
  rw [List.any_eq_false] at h
  have hs : atN l t ∈ secs l := by
    unfold secs
    rw [List.mem_map]
    refine ⟨(t - fstT l).toNat, List.mem_range.2 (by omega), ?_⟩
    rw [show fstT l + (((t - fstT l).toNat : Nat) : Int) = t by omega]
  have h3 := h _ hs
  rw [Bool.not_eq_true, List.any_eq_false] at h3
  have h4 := h3 g hg
  unfold hitsF at h4
  rw [decide_eq_false hn, (atN_ok hl k0 k1).2] at h4
  simp only [Bool.not_false, Bool.true_and, Bool.not_eq_true, List.any_eq_false] at h4
  have h5 := h4 m h2
  simpa using h5
theorem legP_cons_snoc (a : List Tu) (b : Tu) (t : Int) : legP (a ++ [b]) t = if fstT b ≤ t then nodeAt b t else legP a t := by
  unfold legP
  rw [List.reverse_append]
  simp only [List.reverse_cons, List.reverse_nil, List.nil_append, List.cons_append, List.find?_cons]
  by_cases h : fstT b ≤ t
  · rw [if_pos h, decide_eq_true h]
  · rw [if_neg h, decide_eq_false h]
theorem nodeAt_nilW (t : Int) : nodeAt [] t = [] := rfl
theorem step_safe {S : Su} {c : Ce} (hc : CeOk c) (ks : Nat → ByteArray) (x : Inp) (h : Pw (fun _ => True) (SafeTwo S) c.fl) : Pw (fun _ => True) (SafeTwo S) (stepP ks S c x).1.fl := by
  refine step_pw hc ks x h (fun h1 => ⟨trivial, fun g hg hn => ?_⟩) (fun h1 hf h2 => ⟨trivial, fun g hg hn t1 t2 => ?_⟩) (fun h1 hf h2 => ⟨trivial, fun g hg hn t1 t2 => ?_⟩) (fun h1 hf h2 => ⟨trivial, fun g hg hn t1 t2 => ?_⟩)
  · obtain ⟨k1, k2, k3, k4, k5, k6, k7, k8⟩ := fileE_zero h1
    refine safe_two fun t n m hn1 hm1 => ?_
    have hn2 : n ∈ nodeAt x.tube t := by
      unfold placesP newF at hn1
      rw [nodeAt_nilW, List.append_nil] at hn1
      rw [show ([x.tube] : List Tu) = [] ++ [x.tube] from rfl, legP_cons_snoc] at hn1
      split at hn1
      · exact hn1
      · cases hn1
    exact clash_no k7 hg hn hn2 hm1
  · obtain ⟨k1, k2, k3, k4, k5, k6, k7, k8, k9, k10⟩ := clearE_zero h1
    refine safe_two fun t n m hn1 hm1 => ?_
    unfold placesP clearF at hn1
    rcases List.mem_append.1 hn1 with hn1 | hn1
    · exact t1 t n m (by unfold placesP; exact List.mem_append_left _ hn1) hm1
    · exact clash_no k9 hg hn hn1 hm1
  · refine safe_two fun t n m hn1 hm1 => ?_
    refine t1 t n m ?_ hm1
    unfold placesP hearF at hn1
    simp only at hn1
    rw [nodeAt_nilW, List.append_nil, legP_cons_snoc] at hn1
    unfold placesP
    split at hn1
    · exact List.mem_append_right _ hn1
    · exact List.mem_append_left _ hn1
  · refine safe_two fun t n m hn1 hm1 => ?_
    refine t1 t n m ?_ hm1
    unfold placesP refuseF at hn1
    simp only at hn1
    rw [nodeAt_nilW, List.append_nil] at hn1
    unfold placesP
    exact List.mem_append_left _ hn1
end Go.Proofs.YtjmdcpcoliljfaaGreatDoor

/- Plain law: if all is moved and later, the centre answers the same. -/
namespace Go.Proofs.YtjmdcpcoliljfaaGreatDoor
open Go.RowKit

/-- By how much. -/
structure Mv where
  dx : Int
  dy : Int
  dt : Int
variable (d : Mv)
def shN (n : Nd) : Nd := ⟨n.t + d.dt, n.x + d.dx, n.y + d.dy, n.h, n.r, n.b⟩
def shT (l : Tu) : Tu := l.map (shN d)
def shF (f : Fl) : Fl := { f with slot := f.slot + d.dt, legs := f.legs.map (shT d), next := shT d f.next, land := if f.lands = true then f.land + d.dt else f.land, nland := if f.lands = true ∧ 0 < f.next.length then f.nland + d.dt else f.nland }

theorem shT_len (l : Tu) : (shT d l).length = l.length := by simp [shT]
theorem shT_at {l : Tu} {i : Nat} (h : i < l.length) : (shT d l)[i]! = shN d l[i]! := by
  rw [getElem!_pos (shT d l) i (by rw [shT_len]; exact h), getElem!_pos l i h]
  simp [shT]
theorem shT_fst {l : Tu} (h : 0 < l.length) : fstT (shT d l) = fstT l + d.dt := by unfold fstT; rw [shT_at d h]; rfl
theorem shT_lst {l : Tu} (h : 0 < l.length) : lstT (shT d l) = lstT l + d.dt := by unfold lstT; rw [shT_len, shT_at d (by omega)]; rfl
theorem shT_low (l : Tu) (t : Int) : lowT (shT d l) (t + d.dt) = lowT l t := by
  unfold lowT shT
  rw [List.countP_map]
  congr 1
  funext n
  show decide (n.t + d.dt < t + d.dt) = decide (n.t < t)
  rw [decide_eq_decide]; omega
theorem shT_mix (a b : Nd) (t : Int) : mixN (shN d a) (shN d b) (t + d.dt) = shN d (mixN a b t) := by
  unfold mixN shN
  simp only [Nd.mk.injEq, true_and]
  rw [show t + d.dt - (a.t + d.dt) = t - a.t by omega, show b.t + d.dt - (a.t + d.dt) = b.t - a.t by omega, show b.x + d.dx - (a.x + d.dx) = b.x - a.x by omega, show b.y + d.dy - (a.y + d.dy) = b.y - a.y by omega]
  refine ⟨by omega, by omega, rfl, rfl, rfl⟩
theorem low_lt {l : Tu} (h : TuOk l) {t : Int} (h1 : t ≤ lstT l) : lowT l t < l.length := by
  have h2 := lowT_spec h t
  have h3 := lowT_le l t
  have h4 := h.n0
  by_cases e : lowT l t = l.length
  · have := h2.1 (l.length - 1) (by omega)
    unfold lstT at h1
    omega
  · omega
theorem shT_atN {l : Tu} (h : TuOk l) {t : Int} (h1 : t ≤ lstT l) : atN (shT d l) (t + d.dt) = shN d (atN l t) := by
  have hl := low_lt h h1
  unfold atN
  rw [shT_low, shT_at d hl, shT_at d (show lowT l t - 1 < l.length by omega)]
  by_cases e : (l[lowT l t]!).t = t
  · rw [if_pos e, if_pos (by show (l[lowT l t]!).t + d.dt = t + d.dt; omega)]
  · rw [if_neg e, if_neg (by show ¬ (l[lowT l t]!).t + d.dt = t + d.dt; omega), shT_mix]
theorem nodeAt_out {l : Tu} {t : Int} (h : t < fstT l ∨ lstT l < t) : nodeAt l t = [] := by
  cases e : nodeAt l t with
  | nil => rfl
  | cons a r =>
    have := nodeAt_mem (l := l) (t := t) (n := a) (by rw [e]; exact List.mem_cons_self)
    omega
/-- A tube that is sound here and there, or none. -/
def TwoOk (l : Tu) : Prop := l = [] ∨ (TuOk l ∧ TuOk (shT d l))
theorem shT_nodeAt {l : Tu} (h : TwoOk d l) (t : Int) : nodeAt (shT d l) (t + d.dt) = (nodeAt l t).map (shN d) := by
  rcases h with rfl | ⟨h, h'⟩
  · rfl
  by_cases h0 : t < fstT l ∨ lstT l < t
  · rw [nodeAt_out h0, nodeAt_out (by rw [shT_fst d h.n0, shT_lst d h.n0]; omega)]; rfl
  · rw [nodeAt_in h (by omega) (by omega), nodeAt_in h' (by rw [shT_fst d h.n0]; omega) (by rw [shT_lst d h.n0]; omega), shT_atN d h (by omega)]; rfl
theorem shT_legP {legs : List Tu} (h : ∀ l ∈ legs, TuOk l ∧ TuOk (shT d l)) (t : Int) : legP (legs.map (shT d)) (t + d.dt) = (legP legs t).map (shN d) := by
  unfold legP
  rw [← List.map_reverse, List.find?_map]
  have key : ∀ (m : List Tu), (∀ l ∈ m, TuOk l ∧ TuOk (shT d l)) → (match (m.find? ((fun l => decide (fstT l ≤ t + d.dt)) ∘ shT d)).map (shT d) with
      | none => []
      | some l => nodeAt l (t + d.dt)) = (match m.find? (fun l => decide (fstT l ≤ t)) with
      | none => []
      | some l => nodeAt l t).map (shN d) := by
    intro m
    induction m with
    | nil => intro _; rfl
    | cons a r ih =>
      intro hm
      have ha := hm a List.mem_cons_self
      have e : ((fun l => decide (fstT l ≤ t + d.dt)) ∘ shT d) a = decide (fstT a ≤ t) := by
        show decide (fstT (shT d a) ≤ t + d.dt) = _
        rw [shT_fst d ha.1.n0, decide_eq_decide]; omega
      rw [List.find?_cons, List.find?_cons, e]
      by_cases h0 : fstT a ≤ t
      · rw [decide_eq_true h0]
        exact shT_nodeAt d (.inr ha) t
      · rw [decide_eq_false h0]
        exact ih fun l hl => hm l (List.mem_cons_of_mem _ hl)
  exact key _ fun l hl => h l (List.mem_reverse.1 hl)
/-- A flight that is sound here and there. -/
structure TwoF (f : Fl) : Prop where
  a : FlOk f
  b : FlOk (shF d f)
variable {d}
theorem TwoF.leg {f : Fl} (h : TwoF d f) {i : Nat} (hi : i < f.legs.length) : TuOk f.legs[i]! ∧ TuOk (shT d f.legs[i]!) := by
  refine ⟨h.a.legs i hi, ?_⟩
  have h1 : i < (shF d f).legs.length := by simpa [shF] using hi
  have h2 := h.b.legs i h1
  rw [getElem!_pos (shF d f).legs i h1] at h2
  rw [getElem!_pos f.legs i hi]
  simpa [shF] using h2
theorem TwoF.mem {f : Fl} (h : TwoF d f) : ∀ l ∈ f.legs, TuOk l ∧ TuOk (shT d l) := fun l hl => by
  obtain ⟨i, hi, rfl⟩ := List.getElem_of_mem hl
  have := h.leg hi
  rwa [getElem!_pos f.legs i hi] at this
theorem TwoF.next {f : Fl} (h : TwoF d f) : TwoOk d f.next := by
  by_cases h0 : 0 < f.next.length
  · exact .inr ⟨next_ok h.a h0, next_ok h.b (by simpa [shF, shT] using h0)⟩
  · left
    exact List.length_eq_zero_iff.1 (by omega)
theorem TwoF.places {f : Fl} (h : TwoF d f) (t : Int) : placesP (shF d f) (t + d.dt) = (placesP f t).map (shN d) := by
  unfold placesP
  rw [List.map_append, ← shT_legP d h.mem, ← shT_nodeAt d h.next]
  rfl
theorem sepN_sh (p q : Nd) (a b : Int) : sepN (shN d p) (shN d q) a b = sepN p q a b := by
  unfold sepN sqI shN
  simp only
  rw [show p.x + d.dx - (q.x + d.dx) = p.x - q.x by omega, show p.y + d.dy - (q.y + d.dy) = p.y - q.y by omega]
theorem hitsF_sh {S : Su} {f : Fl} (h : TwoF d f) (call : ByteArray) (n : Nd) : hitsF S call (shN d n) (shF d f) = hitsF S call n f := by
  unfold hitsF
  rw [show (shN d n).t = n.t + d.dt from rfl, h.places, List.any_map]
  congr 2
  funext p
  show (!sepN (shN d n) (shN d p) S.lat S.vert) = _
  rw [sepN_sh]
theorem secs_sh {l : Tu} (h : TuOk l) : secs (shT d l) = (secs l).map (shN d) := by
  unfold secs
  rw [shT_fst d h.n0, shT_lst d h.n0, List.map_map, show lstT l + d.dt + 1 - (fstT l + d.dt) = lstT l + 1 - fstT l by omega]
  apply List.map_congr_left
  intro k hk
  have hk := List.mem_range.1 hk
  show atN (shT d l) (fstT l + d.dt + (k : Int)) = shN d (atN l (fstT l + (k : Int)))
  rw [show fstT l + d.dt + (k : Int) = fstT l + (k : Int) + d.dt by omega, shT_atN d h (by omega)]
theorem any_congr' {α : Type} {l : List α} {p q : α → Bool} (h : ∀ x ∈ l, p x = q x) : l.any p = l.any q := by
  induction l with
  | nil => rfl
  | cons a r ih => rw [List.any_cons, List.any_cons, h a List.mem_cons_self, ih fun x hx => h x (List.mem_cons_of_mem _ hx)]
theorem clashP_sh {S : Su} {fl : List Fl} (hf : ∀ f ∈ fl, TwoF d f) (call : ByteArray) {l : Tu} (h : TuOk l) : clashP S (fl.map (shF d)) call (shT d l) = clashP S fl call l := by
  unfold clashP
  rw [secs_sh h, List.any_map]
  refine any_congr' fun n _ => ?_
  show (fl.map (shF d)).any (fun f => hitsF S call (shN d n) f) = _
  rw [List.any_map]
  exact any_congr' fun f hm => hitsF_sh (hf f hm) call n
theorem nearU_sh (S : Su) (a b : Nat) (t u : Int) : nearU S a b (t + d.dt) (u + d.dt) = nearU S a b t u := by
  unfold nearU
  rw [show t + d.dt - (u + d.dt) = t - u by omega, show u + d.dt - (t + d.dt) = u - t by omega]
theorem nearF_sh (S : Su) (call : ByteArray) (k : Nat) (t : Int) (f : Fl) : nearF S call k (t + d.dt) (shF d f) = nearF S call k t f := by
  unfold nearF
  have e1 : (shF d f).call = f.call := rfl
  have e2 : (shF d f).lands = f.lands := rfl
  have e3 : (shF d f).wake = f.wake := rfl
  have e4 : (shF d f).next.length = f.next.length := by simp [shF, shT]
  rw [e1, e2, e3, e4]
  by_cases hl : f.lands = true
  · have e5 : (shF d f).land = f.land + d.dt := by simp [shF, hl]
    rw [e5, nearU_sh]
    by_cases h0 : 0 < f.next.length
    · have e6 : (shF d f).nland = f.nland + d.dt := by simp only [shF]; rw [if_pos ⟨hl, h0⟩]
      rw [e6, nearU_sh]
    · rw [decide_eq_false h0, Bool.false_and, Bool.false_and]
  · have hl' : f.lands = false := by simpa using hl
    rw [hl']; simp
theorem freeP_sh (S : Su) (fl : List Fl) (call : ByteArray) (k : Nat) (t : Int) : freeP S (fl.map (shF d)) call k (t + d.dt) = freeP S fl call k t := by
  unfold freeP
  rw [List.any_map]
  congr 1
  exact any_congr' fun f _ => nearF_sh S call k t f
theorem upTo_sh {p q : Int → Bool} (h : ∀ t, q (t + d.dt) = p t) : ∀ (k : Nat) (t : Int), upTo q k (t + d.dt) = upTo p k t + d.dt
  | 0, t => rfl
  | k + 1, t => by
    unfold upTo
    rw [h t]
    split
    · rfl
    · rw [show t + d.dt + 1 = t + 1 + d.dt by omega, upTo_sh h k (t + 1)]
theorem landP_sh (S : Su) (fl : List Fl) (call : ByteArray) (wk : Int) {l : Tu} (h : 0 < l.length) : landP S (fl.map (shF d)) call wk (shT d l) = landP S fl call wk l + d.dt := by
  unfold landP
  rw [shT_lst d h]
  exact upTo_sh (fun t => freeP_sh S fl call wk.toNat t) farN _
theorem insN_sh {q : Nd} {l : Tu} (h : TuOk l) : insN (shN d q) (shT d l) = insN q l := by
  unfold insN
  rw [shT_fst d h.n0, shT_lst d h.n0, show (shN d q).t = q.t + d.dt from rfl]
  rw [show decide (fstT l + d.dt ≤ q.t + d.dt) = decide (fstT l ≤ q.t) by rw [decide_eq_decide]; omega, show decide (q.t + d.dt ≤ lstT l + d.dt) = decide (q.t ≤ lstT l) by rw [decide_eq_decide]; omega]
  by_cases h1 : q.t ≤ lstT l
  · rw [shT_atN d h h1]
    unfold sqI shN
    simp only
    rw [show q.x + d.dx - ((atN l q.t).x + d.dx) = q.x - (atN l q.t).x by omega, show q.y + d.dy - ((atN l q.t).y + d.dy) = q.y - (atN l q.t).y by omega]
  · rw [decide_eq_false h1, Bool.and_false, Bool.false_and, Bool.false_and]

/-- The same input, moved and later. -/
structure ShI (d : Mv) (x x' : Inp) : Prop where
  kind : x'.kind = x.kind
  time : x'.time = x.time + d.dt
  call : x'.call = x.call
  by_ : x'.by_ = x.by_
  to_ : x'.to_ = x.to_
  tube : x'.tube = shT d x.tube
  two : TwoOk d x.tube
  wake : x'.wake = x.wake
  slot : x'.slot = x.slot + d.dt
  lands : x'.lands = x.lands
  dt : 0 ≤ d.dt
  rg : d.dt = 0 ∨ (0 ≤ x.time ∧ x.time + d.dt ≤ 200000 ∧ 0 ≤ x.slot ∧ x.slot + d.dt ≤ 200000)
/-- The same centre, moved and later. -/
structure ShC (d : Mv) (c c' : Ce) : Prop where
  time : c'.time = c.time + d.dt ∨ (c.time = 0 ∧ c'.time = 0)
  fl : c'.fl = c.fl.map (shF d)
  ow : c'.ow = c.ow
theorem ShC.new (d : Mv) : ShC d newC newC := ⟨.inr ⟨rfl, rfl⟩, rfl, rfl⟩
section
variable {S : Su} {c c' : Ce} {x x' : Inp}
theorem ShC.two (h : ShC d c c') (hc : CeOk c) (hc' : CeOk c') : ∀ f ∈ c.fl, TwoF d f := fun f hf => ⟨hc.fl f hf, hc'.fl _ (by rw [h.fl]; exact List.mem_map_of_mem hf)⟩
theorem ShC.flOf (h : ShC d c c') (hx : ShI d x x') (hc : CeOk c) (hi : isO c.ow x.call = true) : flOf c' x' = shF d (flOf c x) := by
  have hp := (flOf_mem hc hi).1
  unfold Go.Proofs.YtjmdcpcoliljfaaGreatDoor.flOf
  rw [h.ow, hx.call, h.fl, getElem!_pos (c.fl.map (shF d)) _ (by simpa using hp), getElem!_pos c.fl _ hp, List.getElem_map]
theorem tuE_sh {l : Tu} (h : TwoOk d l) : tuE (shT d l) = tuE l := by
  rcases h with rfl | ⟨h, h'⟩
  · rfl
  · rw [h.e, h'.e]
theorem TwoOk.ok {l : Tu} (_h : TwoOk d l) (he : tuE l = 0) : TuOk l := tuOk_of he
theorem fileE_sh (h : ShC d c c') (hx : ShI d x x') (hc : CeOk c) (hc' : CeOk c') : fileE S c' x' = fileE S c x := by
  unfold fileE
  rw [h.ow, hx.call, hx.by_, hx.tube, tuE_sh hx.two, hx.wake, h.fl, hx.lands]
  by_cases h1 : beE c.ow x.call x.by_ ≠ 0
  · rw [if_pos h1, if_pos h1]
  rw [if_neg h1, if_neg h1]
  by_cases h2 : tuE x.tube ≠ 0
  · rw [if_pos h2, if_pos h2]
  have ht := tuOk_of (show tuE x.tube = 0 by omega)
  have hd := hx.dt
  have hrg := hx.rg
  rw [if_neg h2, if_neg h2, shT_fst d ht.n0, shT_lst d ht.n0, clashP_sh (h.two hc hc') _ ht, landP_sh _ _ _ _ ht.n0, hx.slot, hx.time]
  simp only [show (x.wake < 0 ∨ 3 < x.wake ∨ x.slot + d.dt < 0 ∨ 200000 < x.slot + d.dt) = (x.wake < 0 ∨ 3 < x.wake ∨ x.slot < 0 ∨ 200000 < x.slot) by apply propext; omega,
    show (fstT x.tube + d.dt < x.time + d.dt) = (fstT x.tube < x.time) by apply propext; omega, show lstT x.tube + d.dt - (fstT x.tube + d.dt) = lstT x.tube - fstT x.tube by omega,
    show (x.slot + d.dt < landP S c.fl x.call x.wake x.tube + d.dt) = (x.slot < landP S c.fl x.call x.wake x.tube) by apply propext; omega]
theorem legs_sh {f : Fl} {i : Nat} (hi : i < f.legs.length) : (shF d f).legs[i]! = shT d f.legs[i]! := by
  have h1 : i < (shF d f).legs.length := by simpa [shF] using hi
  rw [getElem!_pos (shF d f).legs i h1, getElem!_pos f.legs i hi]
  simp [shF]
theorem clearE_sh (h : ShC d c c') (hx : ShI d x x') (hc : CeOk c) (hc' : CeOk c') : clearE S c' x' = clearE S c x := by
  unfold clearE
  rw [h.ow, hx.call]
  by_cases h1 : isO c.ow x.call = false
  · rw [if_pos h1, if_pos h1]
  have hi : isO c.ow x.call = true := by simpa using h1
  obtain ⟨hp, hm, hf⟩ := flOf_mem hc hi
  have h0 := hf.n0
  have hT := (h.two hc hc') _ hm
  rw [if_neg h1, if_neg h1, h.flOf hx hc hi, hx.by_, hx.tube, tuE_sh hx.two, h.fl]
  have e1 : (shF d (flOf c x)).legs.length = (flOf c x).legs.length := by simp [shF]
  have e2 : (shF d (flOf c x)).next.length = (flOf c x).next.length := by simp [shF, shT]
  have e3 : (shF d (flOf c x)).lands = (flOf c x).lands := rfl
  have e4 : (shF d (flOf c x)).slot = (flOf c x).slot + d.dt := rfl
  have e5 : (shF d (flOf c x)).wake = (flOf c x).wake := rfl
  rw [e1, e2, e3, e4, e5, legs_sh (show (flOf c x).legs.length - 1 < (flOf c x).legs.length by omega)]
  have hl := hT.leg (show (flOf c x).legs.length - 1 < (flOf c x).legs.length by omega)
  by_cases h5 : tuE x.tube ≠ 0
  · rw [if_pos h5, if_pos h5]
  have ht := tuOk_of (show tuE x.tube = 0 by omega)
  rw [if_neg h5, if_neg h5, shT_fst d ht.n0, shT_lst d ht.n0, shT_fst d hl.1.n0, shT_lst d hl.1.n0, clashP_sh (h.two hc hc') _ ht, landP_sh _ _ _ _ ht.n0, hx.time]
  simp only [show (fstT x.tube + d.dt ≤ x.time + d.dt ∨ fstT x.tube + d.dt ≤ fstT (flOf c x).legs[(flOf c x).legs.length - 1]! + d.dt ∨ lstT (flOf c x).legs[(flOf c x).legs.length - 1]! + d.dt < fstT x.tube + d.dt) = (fstT x.tube ≤ x.time ∨ fstT x.tube ≤ fstT (flOf c x).legs[(flOf c x).legs.length - 1]! ∨ lstT (flOf c x).legs[(flOf c x).legs.length - 1]! < fstT x.tube) by apply propext; omega,
    show lstT x.tube + d.dt - (fstT x.tube + d.dt) = lstT x.tube - fstT x.tube by omega,
    show ((flOf c x).slot + d.dt < landP S c.fl x.call (flOf c x).wake x.tube + d.dt) = ((flOf c x).slot < landP S c.fl x.call (flOf c x).wake x.tube) by apply propext; omega]
  by_cases h6 : fstT x.tube ≤ x.time ∨ fstT x.tube ≤ fstT (flOf c x).legs[(flOf c x).legs.length - 1]! ∨ lstT (flOf c x).legs[(flOf c x).legs.length - 1]! < fstT x.tube
  · rw [if_pos h6, if_pos h6]
  rw [if_neg h6, if_neg h6, shT_atN d hl.1 (by omega), insN_sh ht]
theorem hearE_sh (h : ShC d c c') (hx : ShI d x x') (hc : CeOk c) (_hc' : CeOk c') : hearE c' x' = hearE c x := by
  unfold hearE
  rw [h.ow, hx.call]
  by_cases h1 : isO c.ow x.call = false
  · rw [if_pos h1, if_pos h1]
  have hi : isO c.ow x.call = true := by simpa using h1
  have e2 : (shF d (flOf c x)).next.length = (flOf c x).next.length := by simp [shF, shT]
  rw [if_neg h1, if_neg h1, h.flOf hx hc hi, e2]
  by_cases h2 : (flOf c x).next.length = 0
  · rw [if_pos h2, if_pos h2]
  rw [if_neg h2, if_neg h2, show (shF d (flOf c x)).next = shT d (flOf c x).next from rfl, shT_fst d (by omega), hx.time]
  simp only [show (fstT (flOf c x).next + d.dt ≤ x.time + d.dt) = (fstT (flOf c x).next ≤ x.time) by apply propext; omega]
theorem refuseE_sh (h : ShC d c c') (hx : ShI d x x') (hc : CeOk c) : refuseE c' x' = refuseE c x := by
  unfold refuseE
  rw [h.ow, hx.call]
  by_cases h1 : isO c.ow x.call = false
  · rw [if_pos h1, if_pos h1]
  have hi : isO c.ow x.call = true := by simpa using h1
  have e2 : (shF d (flOf c x)).next.length = (flOf c x).next.length := by simp [shF, shT]
  rw [if_neg h1, if_neg h1, h.flOf hx hc hi, e2]
theorem endE_sh (h : ShC d c c') (hx : ShI d x x') (hc : CeOk c) (hc' : CeOk c') : endE c' x' = endE c x := by
  unfold endE
  rw [h.ow, hx.call]
  by_cases h1 : isO c.ow x.call = false
  · rw [if_pos h1, if_pos h1]
  have hi : isO c.ow x.call = true := by simpa using h1
  obtain ⟨hp, hm, hf⟩ := flOf_mem hc hi
  have h0 := hf.n0
  have hl := ((h.two hc hc') _ hm).leg (show (flOf c x).legs.length - 1 < (flOf c x).legs.length by omega)
  have e1 : (shF d (flOf c x)).legs.length = (flOf c x).legs.length := by simp [shF]
  have e2 : (shF d (flOf c x)).next.length = (flOf c x).next.length := by simp [shF, shT]
  rw [if_neg h1, if_neg h1, h.flOf hx hc hi, e1, e2, hx.by_, hx.time, legs_sh (show (flOf c x).legs.length - 1 < (flOf c x).legs.length by omega), shT_lst d hl.1.n0]
  simp only [show (0 < (flOf c x).next.length ∨ x.time + d.dt ≤ lstT (flOf c x).legs[(flOf c x).legs.length - 1]! + d.dt) = (0 < (flOf c x).next.length ∨ x.time ≤ lstT (flOf c x).legs[(flOf c x).legs.length - 1]!) by apply propext; omega]
theorem newF_sh (h : ShC d c c') (hx : ShI d x x') (ht : TuOk x.tube) : newF S c' x' = shF d (newF S c x) := by
  unfold newF shF
  simp only [Fl.mk.injEq]
  rw [hx.call, hx.wake, hx.lands, hx.tube, h.fl, landP_sh _ _ _ _ ht.n0]
  refine ⟨rfl, rfl, hx.slot, rfl, rfl, rfl, ?_, ?_⟩
  · by_cases hl : x.lands = true
    · rw [if_pos hl, if_pos hl, if_pos hl]
    · rw [if_neg hl, if_neg hl, if_neg hl]
  · simp
theorem clearF_sh (h : ShC d c c') (hx : ShI d x x') (hc : CeOk c) (hi : isO c.ow x.call = true) (ht : TuOk x.tube) : clearF S c' x' = shF d (clearF S c x) := by
  unfold clearF
  rw [h.flOf hx hc hi]
  unfold shF
  simp only [Fl.mk.injEq]
  rw [hx.call, hx.tube, h.fl, landP_sh _ _ _ _ ht.n0]
  refine ⟨trivial, trivial, trivial, trivial, trivial, rfl, trivial, ?_⟩
  by_cases hl : (flOf c x).lands = true
  · rw [if_pos hl, if_pos ⟨hl, ht.n0⟩, if_pos hl]
  · rw [if_neg hl, if_neg (fun h => hl h.1), if_neg hl]
theorem hearF_sh (h : ShC d c c') (hx : ShI d x x') (hc : CeOk c) (hi : isO c.ow x.call = true) (hn : 0 < (flOf c x).next.length) : hearF c' x' = shF d (hearF c x) := by
  unfold hearF
  rw [h.flOf hx hc hi]
  unfold shF
  simp only [Fl.mk.injEq]
  refine ⟨trivial, trivial, trivial, trivial, by simp, rfl, ?_, by simp⟩
  by_cases hl : (flOf c x).lands = true
  · rw [if_pos ⟨hl, hn⟩, if_pos hl]
  · rw [if_neg (fun h => hl h.1), if_neg hl]
theorem refuseF_sh (h : ShC d c c') (hx : ShI d x x') (hc : CeOk c) (hi : isO c.ow x.call = true) : refuseF c' x' = shF d (refuseF c x) := by
  unfold refuseF
  rw [h.flOf hx hc hi]
  unfold shF
  simp only [Fl.mk.injEq]
  refine ⟨trivial, trivial, trivial, trivial, trivial, rfl, trivial, by simp⟩
/-- The methods: the same code; flights and entries again. -/
theorem methP_sh (h : ShC d c c') (hx : ShI d x x') (hc : CeOk c) (hc' : CeOk c') : (methP S c' x').2 = (methP S c x).2 ∧ (methP S c' x').1.fl = (methP S c x).1.fl.map (shF d) ∧ (methP S c' x').1.ow = (methP S c x).1.ow := by
  unfold methP
  rw [hx.kind, fileE_sh h hx hc hc', clearE_sh h hx hc hc', hearE_sh h hx hc hc', refuseE_sh h hx hc, endE_sh h hx hc hc', h.ow, hx.call, hx.by_, hx.to_]
  have hset : ∀ {f f' : Fl}, f' = shF d f → (setF c' x' f').fl = (setF c x f).fl.map (shF d) := fun {f f'} e => by
    unfold setF
    simp only
    rw [h.fl, h.ow, hx.call, e, List.map_set]
  by_cases k0 : x.kind = 0
  · rw [if_pos k0, if_pos k0]
    by_cases h1 : fileE S c x = 0
    · rw [if_pos h1, if_pos h1]
      refine ⟨rfl, ?_, ?_⟩
      · unfold fileC insF
        simp only
        rw [newF_sh h hx (fileE_zero h1).2.1, h.fl, h.ow, hx.call, List.map_append, List.map_cons, List.map_take, List.map_drop]
      · unfold fileC
        simp only
        rw [h.ow, hx.call, hx.by_]
    · rw [if_neg h1, if_neg h1]; exact ⟨rfl, h.fl, h.ow⟩
  rw [if_neg k0, if_neg k0]
  by_cases k1 : x.kind = 1
  · rw [if_pos k1, if_pos k1]; exact ⟨rfl, h.fl, rfl⟩
  rw [if_neg k1, if_neg k1]
  by_cases k2 : x.kind = 2
  · rw [if_pos k2, if_pos k2]; exact ⟨rfl, h.fl, rfl⟩
  rw [if_neg k2, if_neg k2]
  by_cases k3 : x.kind = 3
  · rw [if_pos k3, if_pos k3]
    by_cases h1 : clearE S c x = 0
    · have h2 := clearE_zero h1
      rw [if_pos h1, if_pos h1]
      exact ⟨rfl, hset (clearF_sh h hx hc h2.1 h2.2.2.2.2.1), h.ow⟩
    · rw [if_neg h1, if_neg h1]; exact ⟨rfl, h.fl, h.ow⟩
  rw [if_neg k3, if_neg k3]
  by_cases k4 : x.kind = 4
  · rw [if_pos k4, if_pos k4]
    by_cases h1 : hearE c x = 0
    · have h2 := hearE_zero h1
      rw [if_pos h1, if_pos h1]
      exact ⟨rfl, hset (hearF_sh h hx hc h2.1 h2.2.1), h.ow⟩
    · rw [if_neg h1, if_neg h1]; exact ⟨rfl, h.fl, h.ow⟩
  rw [if_neg k4, if_neg k4]
  by_cases k5 : x.kind = 5
  · rw [if_pos k5, if_pos k5]
    by_cases h1 : refuseE c x = 0
    · have h2 := refuseE_zero h1
      rw [if_pos h1, if_pos h1]
      exact ⟨rfl, hset (refuseF_sh h hx hc h2.1), h.ow⟩
    · rw [if_neg h1, if_neg h1]; exact ⟨rfl, h.fl, h.ow⟩
  rw [if_neg k5, if_neg k5]
  by_cases h1 : endE c x = 0
  · rw [if_pos h1, if_pos h1]
    refine ⟨rfl, ?_, ?_⟩
    · unfold endC delL
      simp only
      rw [h.fl, h.ow, hx.call, List.map_append, List.map_take, List.map_drop]
    · unfold endC
      simp only
      rw [h.ow, hx.call]
  · rw [if_neg h1, if_neg h1]; exact ⟨rfl, h.fl, h.ow⟩
theorem stepP_sh (ks : Nat → ByteArray) (h : ShC d c c') (hx : ShI d x x') (hc : CeOk c) (hc' : CeOk c') : (stepP ks S c' x').2 = (stepP ks S c x).2 ∧ ShC d (stepP ks S c x).1 (stepP ks S c' x').1 := by
  obtain ⟨m1, m2, m3⟩ := methP_sh (S := S) h hx hc hc'
  have hd := hx.dt
  have hrg := hx.rg
  have htm := h.time
  have ht := hc.t
  unfold stepP
  rw [hx.kind, m1]
  by_cases k : x.kind < 0 ∨ 7 ≤ x.kind
  · rw [if_pos k, if_pos k]; exact ⟨rfl, h⟩
  rw [if_neg k, if_neg k, hx.time]
  simp only [show (x.time + d.dt < c'.time ∨ 200000 < x.time + d.dt) = (x.time < c.time ∨ 200000 < x.time) by apply propext; omega]
  by_cases k2 : x.time < c.time ∨ 200000 < x.time
  · rw [if_pos k2, if_pos k2]; exact ⟨rfl, h⟩
  rw [if_neg k2, if_neg k2]
  by_cases k3 : (methP S c x).2 = 0
  · rw [if_pos k3, if_pos k3]
    exact ⟨rfl, ⟨.inl hx.time, m2, m3⟩⟩
  · rw [if_neg k3, if_neg k3]; exact ⟨rfl, h⟩
end
end Go.Proofs.YtjmdcpcoliljfaaGreatDoor

