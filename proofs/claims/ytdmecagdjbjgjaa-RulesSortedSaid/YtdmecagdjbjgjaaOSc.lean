/- A scene handed in, opened. -/
import Derived.Test.YtdmecagdjbjgjaaLaw
import Derived.Test.YtdmecagdjbjgjaaOpen
import Derived.Test.YtdmecagdjbjgjaaR15
import Derived.Lib.SmallJoins
namespace Go.Proofs.Ytdmecagdjbjgjaa
open Go.ChangeShapes Go.WideShapes Go.ChangeAt Go.RowKit Go.Joins Go.Deep

theorem cells3 : Try.prog.cellsOf 3 = 1 := by kernel_rfl
theorem cells39 : Try.prog.cellsOf 39 = 2 := by kernel_rfl
theorem cells41 : Try.prog.cellsOf 41 = 13 := by kernel_rfl
theorem cells77 : Try.prog.cellsOf 77 = 1 := by kernel_rfl
theorem cells79 : Try.prog.cellsOf 79 = 3 := by kernel_rfl
theorem cells25 : Try.prog.cellsOf 25 = 3 := by kernel_rfl
theorem cells27 : Try.prog.cellsOf 27 = 2 := by kernel_rfl
theorem cell_at {w : World} {a : Addr} {k : Nat} {u : Value} (hs : a.spot = none) (h : w.cell? (a.add k) = some u) : w.cell? ⟨a.block, a.off + k, none⟩ = some u ∧ a.block < w.heap.size := by
  obtain ⟨ab, ao, sq⟩ := a
  have hs : sq = none := hs
  subst hs
  rw [Addr.add_mid] at h
  exact ⟨h, by have hh := World.block_lt_of_cell? w _ h; exact hh⟩
theorem spot_none {w : World} {a : Addr} {u : Value} (h : w.cell? (a.add 0) = some u) : a.spot = none := by
  obtain ⟨ab, ao, sq⟩ := a
  cases sq with
  | none => rfl
  | some s =>
    simp [Addr.add] at h
    simp [World.cell?] at h
    split at h <;> simp at h

section
variable {H : Type} {enc : TypeId × Value → H} {w : World}
/-- A slice whose elements are opened by a rule of their own. -/
theorem open_rowsG {α : Type} [Inhabited α] (row : α → List Value) (Q : α → Prop) (k : Nat) {t e : TypeId} (ht : Try.prog.underlying t = some (.slice e)) (hC : Try.prog.cellsOf e = k) (hk : 0 < k)
    (hrow : ∀ n cs x, DataW.trod enc Try.prog w 0 (fun _ => true) true n e cs = some x → ∃ a, cs = row a ∧ Q a) {fuel : Nat} {cs : List Value} {x : DataW H × List MemPlace} (h : DataW.trod enc Try.prog w 0 (fun _ => true) true fuel t cs = some x) :
    ∃ (A : Option Addr) (n c : Nat) (F : Nat → α), cs = [.slice A n c] ∧ n ≤ c ∧ c ≤ maxLen ∧ Sl w w.heap.size k A n (fun i => row (F i)) ∧ ∀ i, i < n → Q (F i) := by
  rcases open_slice ht h with ⟨hcs, _⟩ | ⟨a, len, cap, m, n, D, Pl, hcs, _, hl, hm, hmm, _, hi⟩
  · exact ⟨none, 0, 0, fun _ => default, hcs, Nat.le_refl _, by decide, Sl.none_, fun i hi => absurd hi (by omega)⟩
  · simp at hmm
    have hex : ∀ i, ∃ x : α, i < cap → (w.rangeAt a.block (a.off + i * k) (row x) ∧ a.spot = none ∧ a.block < w.heap.size) ∧ Q x := by
      intro i
      by_cases hic : i < cap
      · obtain ⟨cs', hc, ht'⟩ := hi i (by omega)
        obtain ⟨x, rfl, hq⟩ := hrow _ _ _ ht'
        rw [hC] at hc
        obtain ⟨_, hlc, hat⟩ := World.cells?_some hc
        have hs : a.spot = none := by
          obtain ⟨cs0, hc0, _⟩ := hi 0 (by omega)
          rw [hC] at hc0
          obtain ⟨_, hl0, hat0⟩ := World.cells?_some hc0
          have h00 := hat0 0 hk
          rw [Nat.zero_mul, Go.Deep.add_add] at h00
          cases hcs : cs0[0]? with
          | none => rw [List.getElem?_eq_none_iff] at hcs; omega
          | some u => rw [hcs] at h00; exact spot_none h00
        have hcell : ∀ j v, (row x)[j]? = some v → w.cell? ⟨a.block, a.off + (i * k + j), none⟩ = some v ∧ a.block < w.heap.size := fun j v hv => by
          have hj : j < k := by rw [← hlc]; exact (List.getElem?_eq_some_iff.1 hv).1
          have h1 := hat j hj
          rw [Go.Deep.add_add, hv] at h1
          exact cell_at hs h1
        have hb : a.block < w.heap.size := by
          have : (row x)[0]? = some ((row x)[0]'(by omega)) := List.getElem?_eq_getElem (by omega)
          exact (hcell 0 _ this).2
        refine ⟨x, fun _ => ⟨⟨fun j v hv => ?_, hs, hb⟩, hq⟩⟩
        have := (hcell j v hv).1
        rwa [← Nat.add_assoc] at this
      · exact ⟨default, fun h => absurd h hic⟩
    refine ⟨some a, len, cap, fun i => (hex i).choose, hcs, hl, hm, fun h0 => ?_, fun i hi => ((hex i).choose_spec (by omega)).2⟩
    obtain ⟨ab, ao, sq⟩ := a
    obtain ⟨⟨_, hs, hb⟩, _⟩ := (hex 0).choose_spec (by omega)
    have hs : sq = none := hs
    subst hs
    exact ⟨ab, ao, rfl, hb, fun i hi => ((hex i).choose_spec (by omega)).1.1⟩

set_option maxRecDepth 100000 in
theorem open_i {n : Nat} {c : Value} {x : DataW H × List MemPlace} (h : DataW.trod enc Try.prog w 0 (fun _ => true) true n 3 [c] = some x) : ∃ a : Int, c = .int .i64 a := by
  obtain ⟨a, e, _, _⟩ := DataW.trod_int Try.underlying3 h
  exact ⟨a, by simpa using e⟩
set_option maxRecDepth 100000 in
theorem open_pt {n : Nat} {c d : Value} {x : DataW H × List MemPlace} (h : DataW.trod enc Try.prog w 0 (fun _ => true) true n 39 [c, d] = some x) : ∃ a b : Int, c = .int .i64 a ∧ d = .int .i64 b := by
  obtain ⟨z0, z1, m, hz, _, k0, k1⟩ := trod_struct2 Try.underlying39 h
  simp only [cells3] at k0 k1
  obtain ⟨a, ha⟩ := open_i k0
  obtain ⟨b, hb⟩ := open_i k1
  exact ⟨a, b, ha, hb⟩
set_option maxRecDepth 100000 in
theorem open_ptL {n : Nat} {cs : List Value} {x : DataW H × List MemPlace} (h : DataW.trod enc Try.prog w 0 (fun _ => true) true n 39 cs = some x) : ∃ p : Int × Int, cs = [.int .i64 p.1, .int .i64 p.2] ∧ True := by
  obtain ⟨z0, z1, m, hz, hl, k0, k1⟩ := trod_struct2 Try.underlying39 h
  rw [cells39] at hl
  match cs, hl with
  | [c, d], _ =>
    obtain ⟨a, b, rfl, rfl⟩ := open_pt h
    exact ⟨(a, b), rfl, trivial⟩
theorem list13 {α : Type} {l : List α} (h : l.length = 13) : ∃ c0 c1 c2 c3 c4 c5 c6 c7 c8 c9 c10 c11 c12, l = [c0, c1, c2, c3, c4, c5, c6, c7, c8, c9, c10, c11, c12] := by
  match l, h with
  | [c0, c1, c2, c3, c4, c5, c6, c7, c8, c9, c10, c11, c12], _ => exact ⟨c0, c1, c2, c3, c4, c5, c6, c7, c8, c9, c10, c11, c12, rfl⟩
set_option maxRecDepth 100000 in
theorem open_track {n : Nat} {cs : List Value} {x : DataW H × List MemPlace} (h : DataW.trod enc Try.prog w 0 (fun _ => true) true n 41 cs = some x) : ∃ t : Tr, cs = trL t ∧ True := by
  obtain ⟨ys, n', _, _, hl, hyl, hf⟩ := DataW.trod_struct Try.underlying41 h
  rw [cells41] at hl
  obtain ⟨c0, c1, c2, c3, c4, c5, c6, c7, c8, c9, c10, c11, c12, rfl⟩ := list13 hl
  have hy : ∀ i, i < 11 → ∃ y, ys[i]? = some y := fun i hi => ⟨_, List.getElem?_eq_getElem (by rw [hyl]; exact hi)⟩
  have k0 := hf 0 _ rfl
  have k1 := hf 1 _ rfl
  have k2 := hf 2 _ rfl
  have k3 := hf 3 _ rfl
  have k4 := hf 4 _ rfl
  have k5 := hf 5 _ rfl
  have k6 := hf 6 _ rfl
  have k7 := hf 7 _ rfl
  have k8 := hf 8 _ rfl
  have k9 := hf 9 _ rfl
  have k10 := hf 10 _ rfl
  simp only [List.getElem_toArray, List.getElem_cons_zero, List.getElem_cons_succ, cells3, cells39] at k0 k1 k2 k3 k4 k5 k6 k7 k8 k9 k10
  obtain ⟨y0, e0⟩ := hy 0 (by omega)
  obtain ⟨y1, e1⟩ := hy 1 (by omega)
  obtain ⟨y2, e2⟩ := hy 2 (by omega)
  obtain ⟨y3, e3⟩ := hy 3 (by omega)
  obtain ⟨y4, e4⟩ := hy 4 (by omega)
  obtain ⟨y5, e5⟩ := hy 5 (by omega)
  obtain ⟨y6, e6⟩ := hy 6 (by omega)
  obtain ⟨y7, e7⟩ := hy 7 (by omega)
  obtain ⟨y8, e8⟩ := hy 8 (by omega)
  obtain ⟨y9, e9⟩ := hy 9 (by omega)
  obtain ⟨y10, e10⟩ := hy 10 (by omega)
  obtain ⟨a0, rfl⟩ := open_i (k0.trans e0)
  obtain ⟨a1, rfl⟩ := open_i (k1.trans e1)
  obtain ⟨a2, rfl⟩ := open_i (k2.trans e2)
  obtain ⟨a3, a4, rfl, rfl⟩ := open_pt (k3.trans e3)
  obtain ⟨a5, a6, rfl, rfl⟩ := open_pt (k4.trans e4)
  obtain ⟨a7, rfl⟩ := open_i (k5.trans e5)
  obtain ⟨a8, rfl⟩ := open_i (k6.trans e6)
  obtain ⟨a9, rfl⟩ := open_i (k7.trans e7)
  obtain ⟨a10, rfl⟩ := open_i (k8.trans e8)
  obtain ⟨a11, rfl⟩ := open_i (k9.trans e9)
  obtain ⟨a12, rfl⟩ := open_i (k10.trans e10)
  exact ⟨⟨a0, a1, a2, a3, a4, a5, a6, a7, a8, a9, a10, a11, a12⟩, rfl, trivial⟩
set_option maxRecDepth 100000 in
theorem open_vol {n : Nat} {cs : List Value} {x : DataW H × List MemPlace} (h : DataW.trod enc Try.prog w 0 (fun _ => true) true n 79 cs = some x) : ∃ v : Vo, cs = voL v ∧ Sl w w.heap.size 2 v.A v.n (ptRow v.F) := by
  obtain ⟨y0, y1, y2, m, _, hl, k0, k1, k2⟩ := trod_struct3 Try.underlying79 h
  rw [cells79] at hl
  match cs, hl with
  | [c0, c1, c2], _ =>
    simp only [cells3, cells77] at k0 k1 k2
    obtain ⟨A, n, c, F, hA, _, _, hS, _⟩ := open_rowsG (fun p : Int × Int => [Value.int .i64 p.1, .int .i64 p.2]) (fun _ => True) 2 Try.underlying77 cells39 (by decide) (fun n cs x h => open_ptL h) k0
    obtain ⟨a, rfl⟩ := open_i k1
    obtain ⟨b, rfl⟩ := open_i k2
    have hA : c0 = .slice A n c := by
      have : [c0] = [Value.slice A n c] := hA
      simpa using this
    subst hA
    exact ⟨⟨A, n, c, F, a, b⟩, rfl, hS⟩

set_option maxRecDepth 100000 in
theorem open_scene {base : Nat} {r : Reach} {v : Value} {d : DataW H} {p : List MemPlace} (hv : Value.okWide Try.prog w r base 25 v) (h : DataW.Trod enc Try.prog w 0 (fun _ => true) true 25 v d p) : ∃ s : Sc, v = s.val ∧ s.at_ w w.heap.size := by
  obtain ⟨v0, v1, v2, y0, y1, y2, n, rfl, _, _, h0, h1, h2⟩ := open_agg3 Try.underlying25 (by kernel_rfl) cells25 hv h
  obtain ⟨tm, rfl⟩ := open_i h0
  obtain ⟨A, n1, c, T, hA, hnc, _, hT, _⟩ := open_rowsG trL (fun _ => True) 13 Try.underlying22 cells41 (by decide) (fun n cs x h => open_track h) h1
  obtain ⟨B, m, d', V, hB, _, _, hV, hP⟩ := open_rowsG voL (fun u => Sl w w.heap.size 2 u.A u.n (ptRow u.F)) 3 Try.underlying23 cells79 (by decide) (fun n cs x h => open_vol h) h2
  have hA : v1 = .slice A n1 c := by
    have : [v1] = [Value.slice A n1 c] := hA
    simpa using this
  have hB : v2 = .slice B m d' := by
    have : [v2] = [Value.slice B m d'] := hB
    simpa using this
  subst hA hB
  exact ⟨⟨tm, A, n1, c, B, m, d', T, V⟩, rfl, hnc, hT, hV, hP⟩
set_option maxRecDepth 100000 in
theorem open_sep {base : Nat} {r : Reach} {v : Value} {d : DataW H} {p : List MemPlace} (hv : Value.okWide Try.prog w r base 27 v) (h : DataW.Trod enc Try.prog w 0 (fun _ => true) true 27 v d p) : ∃ a b : Int, v = .agg #[.int .i64 a, .int .i64 b] := by
  obtain ⟨v0, v1, y0, y1, n, rfl, rfl, rfl, h0, h1⟩ := open_agg2 Try.underlying27 (by kernel_rfl) cells27 hv h
  obtain ⟨a, rfl⟩ := open_i h0
  obtain ⟨b, rfl⟩ := open_i h1
  exact ⟨a, b, rfl⟩
end
end Go.Proofs.Ytdmecagdjbjgjaa
