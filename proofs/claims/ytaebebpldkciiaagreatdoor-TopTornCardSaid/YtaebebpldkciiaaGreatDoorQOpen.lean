/- Opening the arguments of a law: slices of structs of one-cell fields; arrays of ints. -/
import Derived.Test.YtaebebpldkciiaaGreatDoorQG01
import Derived.Deep.Slices
import Derived.Deep.Fields
import Derived.ChangeSame
import Derived.OpenShut
import Derived.SizedLaws
import Derived.Test.YtaebebpldkciiaaGreatDoorQB2
import Derived.Lib.SmallJoins
namespace Go.Proofs.YtaebebpldkciiaaGreatDoor
open Go.RowKit Go.ChangeShapes Go.WideShapes Go.Deep
section
variable {H : Type} {enc : TypeId × Value → H} {P : Program} {w : World} {base : Nat} {spare : Nat → Bool} {held : Bool}
end
end Go.Proofs.YtaebebpldkciiaaGreatDoor
namespace Go.Proofs.YtaebebpldkciiaaGreatDoor
open Go.ChangeShapes Go.WideShapes Go.ChangeAt Go.RowKit Go.Joins Go.Deep
theorem cells3 : Tryz.prog.cellsOf 3 = 1 := by kernel_rfl
theorem cells9 : Tryz.prog.cellsOf 9 = 1 := by kernel_rfl
theorem cells4 : Tryz.prog.cellsOf 4 = 1 := by kernel_rfl
theorem cells33 : Tryz.prog.cellsOf 44 = 1 := by kernel_rfl
theorem cells43 : Tryz.prog.cellsOf 48 = 2 := by kernel_rfl
theorem cells45 : Tryz.prog.cellsOf 50 = 4 := by kernel_rfl
theorem cells47 : Tryz.prog.cellsOf 52 = 6 := by kernel_rfl
theorem cells35 : Tryz.prog.cellsOf 62 = 9 := by kernel_rfl
theorem cells23 : Tryz.prog.cellsOf 23 = 2 := by kernel_rfl
theorem cells24 : Tryz.prog.cellsOf 24 = 4 := by kernel_rfl
theorem cells25 : Tryz.prog.cellsOf 25 = 16 := by kernel_rfl
theorem cells27 : Tryz.prog.cellsOf 27 = 18 := by kernel_rfl
theorem cell_at {w : World} {a : Addr} {k : Nat} {u : Value} (hs : a.spot = none) (h : w.cell? (a.add k) = some u) : w.cell? ⟨a.block, a.off + k, none⟩ = some u ∧ a.block < w.heap.size := by
 obtain ⟨ab, ao, sq⟩ := a
 have hs : sq = none := hs
 subst hs
 rw [Addr.add_mid] at h
 exact ⟨h, by have hh := World.block_lt_of_cell? w _ h; exact hh⟩
theorem spot_none {w : World} {a : Addr} {u : Value} (h : w.cell? (a.add 0) = some u) : a.spot = none := by
 obtain ⟨ab, ao, sq⟩ := a
 cases sq with
 | none => rfl
 | some s =>
  simp [Addr.add] at h
  simp [World.cell?] at h
  split at h <;> simp at h
section
variable {H : Type} {enc : TypeId × Value → H} {w : World}
theorem open_rowsG {α : Type} [Inhabited α] (row : α → List Value) (Q : α → Prop) (k : Nat) {t e : TypeId} (ht : Tryz.prog.underlying t = some (.slice e)) (hC : Tryz.prog.cellsOf e = k) (hk : 0 < k)
  (hrow : ∀ n cs x, DataW.trod enc Tryz.prog w 0 (fun _ => true) true n e cs = some x → ∃ a, cs = row a ∧ Q a) {fuel : Nat} {cs : List Value} {x : DataW H × List MemPlace} (h : DataW.trod enc Tryz.prog w 0 (fun _ => true) true fuel t cs = some x) :
  ∃ (A : Option Addr) (n c : Nat) (F : Nat → α), cs = [.slice A n c] ∧ n ≤ c ∧ c ≤ maxLen ∧ Sl w w.heap.size k A n (fun i => row (F i)) ∧ (∀ i, i < n → Q (F i)) ∧ (A = none → n = 0 ∧ c = 0) := by
 rcases open_slice ht h with ⟨hcs, _⟩ | ⟨a, len, cap, m, n, D, Pl, hcs, _, hl, hm, hmm, _, hi⟩
 ·exact ⟨none, 0, 0, fun _ => default, hcs, Nat.le_refl _, by decide, Sl.none_, fun i hi => absurd hi (by omega), fun _ => ⟨rfl, rfl⟩⟩
 ·simp at hmm
  have hex : ∀ i, ∃ x : α, i < cap → (w.rangeAt a.block (a.off + i * k) (row x) ∧ a.spot = none ∧ a.block < w.heap.size) ∧ Q x := by
   intro i
   by_cases hic : i < cap
   ·obtain ⟨cs', hc, ht'⟩ := hi i (by omega)
    obtain ⟨x, rfl, hq⟩ := hrow _ _ _ ht'
    rw [hC] at hc
    obtain ⟨_, hlc, hat⟩ := World.cells?_some hc
    have hs : a.spot = none := by
     obtain ⟨cs0, hc0, _⟩ := hi 0 (by omega)
     rw [hC] at hc0
     obtain ⟨_, hl0, hat0⟩ := World.cells?_some hc0
     have h00 := hat0 0 hk
     rw [Nat.zero_mul, Go.Deep.add_add] at h00
     cases hcs : cs0[0]? with
     | none => rw [List.getElem?_eq_none_iff] at hcs; omega
     | some u => rw [hcs] at h00; exact spot_none h00
    have hcell : ∀ j v, (row x)[j]? = some v → w.cell? ⟨a.block, a.off + (i * k + j), none⟩ = some v ∧ a.block < w.heap.size := fun j v hv => by
     have hj : j < k := by rw [← hlc]; exact (List.getElem?_eq_some_iff.1 hv).1
     have h1 := hat j hj
     rw [Go.Deep.add_add, hv] at h1
     exact cell_at hs h1
    have hb : a.block < w.heap.size := by
     have : (row x)[0]? = some ((row x)[0]'(by omega)) := List.getElem?_eq_getElem (by omega)
     exact (hcell 0 _ this).2
    refine ⟨x, fun _ => ⟨⟨fun j v hv => ?_, hs, hb⟩, hq⟩⟩
    have := (hcell j v hv).1
    rwa [← Nat.add_assoc] at this
   ·exact ⟨default, fun h => absurd h hic⟩
  refine ⟨some a, len, cap, fun i => (hex i).choose, hcs, hl, hm, fun h0 => ?_, fun i hi => ((hex i).choose_spec (by omega)).2, fun h => by cases h⟩
  obtain ⟨ab, ao, sq⟩ := a
  obtain ⟨⟨_, hs, hb⟩, _⟩ := (hex 0).choose_spec (by omega)
  have hs : sq = none := hs
  subst hs
  exact ⟨ab, ao, rfl, hb, fun i hi => ((hex i).choose_spec (by omega)).1.1⟩
set_option maxRecDepth 100000 in
theorem open_i {n : Nat} {c : Value} {x : DataW H × List MemPlace} (h : DataW.trod enc Tryz.prog w 0 (fun _ => true) true n 3 [c] = some x) : ∃ a : Int, c = .int .i64 a := by
 obtain ⟨a, e, _, _⟩ := DataW.trod_int Tryz.underlying3 h
 exact ⟨a, by simpa using e⟩
set_option maxRecDepth 100000 in
theorem open_s {n : Nat} {c : Value} {x : DataW H × List MemPlace} (h : DataW.trod enc Tryz.prog w 0 (fun _ => true) true n 9 [c] = some x) : ∃ a : ByteArray, c = .string a ∧ a.size ≤ maxLen := by
 obtain ⟨a, e, _, hs⟩ := DataW.trod_string Tryz.underlying9 h
 exact ⟨a, by simpa using e, hs⟩
set_option maxRecDepth 100000 in
theorem open_b {n : Nat} {c : Value} {x : DataW H × List MemPlace} (h : DataW.trod enc Tryz.prog w 0 (fun _ => true) true n 4 [c] = some x) : ∃ a : Bool, c = .bool a := by
 obtain ⟨a, e, _⟩ := DataW.trod_bool Tryz.underlying4 h
 exact ⟨a, by simpa using e⟩
set_option maxRecDepth 100000 in
theorem open_pt {n : Nat} {c d : Value} {x : DataW H × List MemPlace} (h : DataW.trod enc Tryz.prog w 0 (fun _ => true) true n 48 [c, d] = some x) : ∃ a b : Int, c = .int .i64 a ∧ d = .int .i64 b := by
 obtain ⟨z0, z1, m, hz, _, k0, k1⟩ := trod_struct2 Tryz.underlying48 h
 simp only [cells3] at k0 k1
 obtain ⟨a, ha⟩ := open_i k0
 obtain ⟨b, hb⟩ := open_i k1
 exact ⟨a, b, ha, hb⟩
set_option maxRecDepth 100000 in
theorem open_node {n : Nat} {cs : List Value} {x : DataW H × List MemPlace} (h : DataW.trod enc Tryz.prog w 0 (fun _ => true) true n 52 cs = some x) : ∃ q : Nd, cs = ndV q ∧ True := by
 obtain ⟨y0, y1, y2, m, _, hl, k0, k1, k2⟩ := trod_struct3 Tryz.underlying52 h
 rw [cells47] at hl
 match cs, hl with
 | [c0, c1, c2, c3, c4, c5], _ =>
  simp only [cells3, cells45] at k0 k1 k2
  obtain ⟨z0, z1, z2, m', _, _, l0, l1, l2⟩ := trod_struct3 Tryz.underlying50 k0
  simp only [cells3, cells43] at l0 l1 l2
  obtain ⟨a0, rfl⟩ := open_i l0
  obtain ⟨a1, a2, rfl, rfl⟩ := open_pt l1
  obtain ⟨a3, rfl⟩ := open_i l2
  obtain ⟨a4, rfl⟩ := open_i k1
  obtain ⟨a5, rfl⟩ := open_i k2
  exact ⟨⟨a0, a1, a2, a3, a4, a5⟩, rfl, trivial⟩
theorem list9 {α : Type} {l : List α} (h : l.length = 9) : ∃ c0 c1 c2 c3 c4 c5 c6 c7 c8, l = [c0, c1, c2, c3, c4, c5, c6, c7, c8] := by
 match l, h with
 | [c0, c1, c2, c3, c4, c5, c6, c7, c8], _ => exact ⟨c0, c1, c2, c3, c4, c5, c6, c7, c8, rfl⟩
theorem fam_at {α : Type} [Inhabited α] {n : Nat} (F : Nat → α) {i : Nat} (h : i < n) : ((List.range n).map F)[i]! = F i := by
 rw [getElem!_pos _ i (by simpa using h)]
 simp
def InQ (w : World) (p : Inp × Hd) : Prop := TuN w.heap.size p.2 p.1.tube w ∧ InB p.1
set_option maxRecDepth 100000 in
theorem open_inp {n : Nat} {cs : List Value} {x : DataW H × List MemPlace} (h : DataW.trod enc Tryz.prog w 0 (fun _ => true) true n 62 cs = some x) : ∃ p : Inp × Hd, cs = inV p.1 p.2 ∧ InQ w p := by
 obtain ⟨ys, n', _, _, hl, hyl, hf⟩ := DataW.trod_struct Tryz.underlying62 h
 rw [cells35] at hl
 obtain ⟨c0, c1, c2, c3, c4, c5, c6, c7, c8, rfl⟩ := list9 hl
 have hy : ∀ i, i < 9 → ∃ y, ys[i]? = some y := fun i hi => ⟨_, List.getElem?_eq_getElem (by rw [hyl]; exact hi)⟩
 have k0 := hf 0 _ rfl
 have k1 := hf 1 _ rfl
 have k2 := hf 2 _ rfl
 have k3 := hf 3 _ rfl
 have k4 := hf 4 _ rfl
 have k5 := hf 5 _ rfl
 have k6 := hf 6 _ rfl
 have k7 := hf 7 _ rfl
 have k8 := hf 8 _ rfl
 simp only [List.getElem_toArray, List.getElem_cons_zero, List.getElem_cons_succ, cells3, cells9, cells33, cells4] at k0 k1 k2 k3 k4 k5 k6 k7 k8
 obtain ⟨y0, e0⟩ := hy 0 (by omega)
 obtain ⟨y1, e1⟩ := hy 1 (by omega)
 obtain ⟨y2, e2⟩ := hy 2 (by omega)
 obtain ⟨y3, e3⟩ := hy 3 (by omega)
 obtain ⟨y4, e4⟩ := hy 4 (by omega)
 obtain ⟨y5, e5⟩ := hy 5 (by omega)
 obtain ⟨y6, e6⟩ := hy 6 (by omega)
 obtain ⟨y7, e7⟩ := hy 7 (by omega)
 obtain ⟨y8, e8⟩ := hy 8 (by omega)
 obtain ⟨a0, rfl⟩ := open_i (k0.trans e0)
 obtain ⟨a1, rfl⟩ := open_i (k1.trans e1)
 obtain ⟨a2, rfl, b2⟩ := open_s (k2.trans e2)
 obtain ⟨a3, rfl, b3⟩ := open_s (k3.trans e3)
 obtain ⟨a4, rfl, b4⟩ := open_s (k4.trans e4)
 obtain ⟨A, m, c, F, hA, hmc, hc, hS, _, _⟩ := open_rowsG ndV (fun _ => True) 6 Tryz.underlying44 cells47 (by decide) (fun n cs x h => open_node h) (k5.trans e5)
 have hA : c5 = .slice A m c := by
  have : [c5] = [Value.slice A m c] := hA
  simpa using this
 subst hA
 obtain ⟨a6, rfl⟩ := open_i (k6.trans e6)
 obtain ⟨a7, rfl⟩ := open_i (k7.trans e7)
 obtain ⟨a8, rfl⟩ := open_b (k8.trans e8)
 refine ⟨(⟨a0, a1, a2, a3, a4, (List.range m).map F, a6, a7, a8⟩, ⟨A, m, c⟩), rfl, ⟨by simp, hS.congr fun i hi => by rw [fam_at F hi]⟩, b2, b3, b4, by simp; omega⟩
set_option maxRecDepth 100000 in
theorem open_inps {base : Nat} {r : Reach} {v : Value} {d : DataW H} {p : List MemPlace} (hv : Value.okWide Tryz.prog w r base 28 v) (h : DataW.Trod enc Tryz.prog w 0 (fun _ => true) true 28 v d p) :
  ∃ (A : Option Addr) (n c : Nat) (l : List Inp) (hs : List Hd), v = .slice A n c ∧ InsA w.heap.size A n l hs w ∧ n ≤ c ∧ c ≤ maxLen ∧ (A = none → n = 0 ∧ c = 0) := by
 obtain ⟨fuel, hf⟩ := h
 obtain ⟨A, n, c, F, hA, hnc, hc, hS, hQ, hnil⟩ := open_rowsG (fun p : Inp × Hd => inV p.1 p.2) (InQ w) 9 Tryz.underlying28 cells35 (by decide) (fun n cs x h => open_inp h) hf
 refine ⟨A, n, c, (List.range n).map fun i => (F i).1, (List.range n).map fun i => (F i).2, ?_, ⟨by simp, by simp, hS.congr fun i hi => by rw [fam_at _ hi, fam_at _ hi], fun i hi => by rw [fam_at _ hi, fam_at _ hi]; exact (hQ i hi).1, fun i hi => by rw [fam_at _ hi]; exact (hQ i hi).2⟩, hnc, hc, hnil⟩
 obtain ⟨A', n', c', rfl, _⟩ := okWide_slice Tryz.underlying28 hv
 simpa [Value.cells] using hA
set_option maxRecDepth 100000 in
theorem open_setup {base : Nat} {r : Reach} {v : Value} {d : DataW H} {p : List MemPlace} (hv : Value.okWide Tryz.prog w r base 27 v) (h : DataW.Trod enc Tryz.prog w 0 (fun _ => true) true 27 v d p) : ∃ S : Su, v = suA S := by
 obtain ⟨G, rfl, hsz⟩ : ∃ cs, v = .agg cs ∧ cs.size = Tryz.prog.cellsOf 27 := by
  simp only [Value.okWide, Tryz.underlying27] at hv
  obtain ⟨cs, h1, h2, _⟩ := hv
  exact ⟨cs, h1, h2⟩
 rw [cells27] at hsz
 obtain ⟨fuel, hf⟩ := h
 obtain ⟨y0, y1, m, _, _, k0, k1⟩ := trod_struct2 Tryz.underlying27 hf
 dsimp only at k0 k1
 rw [cells23] at k0
 rw [cells25] at k1
 obtain ⟨z0, z1, m0, _, _, l0, l1⟩ := trod_struct2 Tryz.underlying23 k0
 dsimp only at l0 l1
 rw [cells3] at l0 l1
 obtain ⟨xs, m1, _, _, _, hlen, hx⟩ := DataW.trod_array Tryz.underlying25 k1
 have hc : ∀ i, i < 18 → ∃ q : Int, G[i]? = some (.int .i64 q) := by
  intro i hi
  rcases (show i = 0 ∨ i = 1 ∨ 2 ≤ i by omega) with e | e | e
  ·subst e
   obtain ⟨q, e, _⟩ := DataW.trod_int Tryz.underlying3 l0
   refine ⟨q, ?_⟩
   have e' := congrArg (·[0]?) e
   simpa [Value.cells, List.getElem?_take, List.getElem?_drop] using e'
  ·subst e
   obtain ⟨q, e, _⟩ := DataW.trod_int Tryz.underlying3 l1
   refine ⟨q, ?_⟩
   have e' := congrArg (·[0]?) e
   simpa [Value.cells, List.getElem?_take, List.getElem?_drop] using e'
  ·have h1 := hx ((i - 2) / 4) (by omega)
   rw [List.getElem?_eq_getElem (by omega)] at h1
   obtain ⟨ys, m', _, _, _, hlen', hy⟩ := DataW.trod_array Tryz.underlying24 h1
   have h2 := hy ((i - 2) % 4) (by omega)
   rw [List.getElem?_eq_getElem (by omega)] at h2
   obtain ⟨q, e, _⟩ := DataW.trod_int Tryz.underlying3 h2
   rw [cells24, cells3] at e
   refine ⟨q, ?_⟩
   have e' := congrArg (·[0]?) e
   simp only [Value.cells, List.getElem?_take, List.getElem?_drop, List.getElem?_cons_zero] at e'
   rw [if_pos (by omega), if_pos (by omega), if_pos (by omega)] at e'
   rw [show 2 + ((i - 2) / 4 * 4 + ((i - 2) % 4 * 1 + 0)) = i by omega] at e'
   simpa using e'
 obtain ⟨q, hq⟩ : ∃ q : Nat → Int, ∀ i, i < 18 → G[i]? = some (.int .i64 (q i)) := ⟨fun i => if h : i < 18 then (hc i h).choose else 0, fun i hi => by simp only [dif_pos hi]; exact (hc i hi).choose_spec⟩
 refine ⟨⟨q 0, q 1, fun i => q (i + 2)⟩, ?_⟩
 unfold suA setupA
 congr 1
 apply Array.ext_getElem?
 intro i
 by_cases hi : i < 18
 ·rw [hq i hi]
  match i, hi with
  | 0, _ => rfl
  | 1, _ => rfl
  | 2, _ => rfl
  | 3, _ => rfl
  | 4, _ => rfl
  | 5, _ => rfl
  | 6, _ => rfl
  | 7, _ => rfl
  | 8, _ => rfl
  | 9, _ => rfl
  | 10, _ => rfl
  | 11, _ => rfl
  | 12, _ => rfl
  | 13, _ => rfl
  | 14, _ => rfl
  | 15, _ => rfl
  | 16, _ => rfl
  | 17, _ => rfl
  | k + 18, h => exact absurd h (by omega)
 ·rw [Array.getElem?_eq_none (by omega), Array.getElem?_eq_none (by simp; omega)]
end
end Go.Proofs.YtaebebpldkciiaaGreatDoor
