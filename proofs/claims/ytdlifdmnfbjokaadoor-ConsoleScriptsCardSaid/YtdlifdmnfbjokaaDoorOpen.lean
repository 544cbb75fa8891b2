/- Opening the arguments of a law: slices of structs of one-cell fields; arrays of ints. -/
import Derived.Test.YtdlifdmnfbjokaaDoorMem
import Derived.Deep.Slices
import Derived.Deep.Fields
import Derived.ChangeSame
import Derived.OpenShut
import Derived.SizedLaws
namespace Go.Proofs.YtdlifdmnfbjokaaDoor
open Go.RowKit Go.ChangeShapes Go.WideShapes Go.Deep

section
variable {H : Type} {enc : TypeId × Value → H} {P : Program} {w : World} {base : Nat} {spare : Nat → Bool} {held : Bool}
theorem open_slice_fields {t e : TypeId} {fs : Array Field} {fuel : Nat} {cs : List Value} {x : DataW H × List MemPlace} (ht : P.underlying t = some (.slice e)) (he : P.underlying e = some (.struct fs))
    (hone : oneCellFields P fs = true) (hC : P.cellsOf e = fs.size) (h : DataW.trod enc P w base spare held fuel t cs = some x) :
    (cs = [.slice none 0 0] ∧ x = (.nil, [])) ∨
    ∃ (a : Addr) (len cap m : Nat) (D : Nat → DataW H) (Pl : Nat → List MemPlace), cs = [.slice (some a) len cap] ∧ base ≤ a.block ∧ len ≤ cap ∧ cap ≤ maxLen ∧ m = (if spare a.block then cap else len) ∧
      x = (.slice ((List.range len).map D) ((List.range (m - len)).map fun j => D (len + j)), MemPlace.row a (m * fs.size) ++ (List.range m).flatMap Pl) ∧
      ∀ i, i < m → ∃ (ys : List (DataW H × List MemPlace)) (n : Nat), D i = .agg (ys.map (·.1)) ∧ Pl i = ys.flatMap (·.2) ∧ ys.length = fs.size ∧
        ∀ (j : Nat) (f : Field), fs[j]? = some f → ∃ (v : Value) (y : DataW H × List MemPlace), w.cell? (a.add (i * fs.size + j)) = some v ∧ ys[j]? = some y ∧ DataW.trod enc P w base spare held n f.type [v] = some y := by
  rcases open_slice ht h with h0 | ⟨a, len, cap, m, n, D, Pl, hcs, hb, hl, hm, hmm, hx, hi⟩
  · exact .inl h0
  · refine .inr ⟨a, len, cap, m, D, Pl, hcs, hb, hl, hm, hmm, by rw [hC] at hx; exact hx, fun i him => ?_⟩
    obtain ⟨cs', hc, ht'⟩ := hi i him
    rw [hC] at hc
    obtain ⟨ys, n', hn', hy, hlen, hyl, hf⟩ := DataW.trod_struct he ht'
    obtain ⟨_, hcl, hat⟩ := World.cells?_some hc
    simp only [Prod.mk.injEq] at hy
    refine ⟨ys, n', hy.1, hy.2, hyl, fun j f hj => ?_⟩
    obtain ⟨ho, hk⟩ := hone_of hone j f hj
    have hjl : j < fs.size := (Array.getElem?_eq_some_iff.1 hj).1
    have hcell := hat j hjl
    have hv : cs'[j]? = some (cs'[j]'(by omega)) := List.getElem?_eq_getElem (by omega)
    have h1 := hf j f hj
    rw [ho, hk] at h1
    have hone' : (cs'.drop j).take 1 = [cs'[j]'(by omega)] := by
      rw [List.drop_eq_getElem_cons (by omega)]
      rfl
    rw [hone'] at h1
    have hys : ys[j]? = some (ys[j]'(by omega)) := List.getElem?_eq_getElem (by omega)
    refine ⟨_, _, ?_, hys, h1.trans hys⟩
    rw [← Go.Deep.add_add, hcell, hv]
end

/-- A slice argument as the walk wants it: its header, and each element's cells, field by field. -/
theorem open_rows {H : Type} {enc : TypeId × Value → H} {P : Program} {w : World} {b0 : Nat} {r : Reach} {t e : TypeId} {fs : Array Field} {v : Value} {d : DataW H} {p : List MemPlace} (ht : P.underlying t = some (.slice e)) (he : P.underlying e = some (.struct fs))
    (hone : oneCellFields P fs = true) (hC : P.cellsOf e = fs.size) (hv : Value.okWide P w r b0 t v) (h : DataW.Trod enc P w 0 (fun _ => true) true t v d p) :
    ∃ (A : Option Addr) (n c : Nat), v = .slice A n c ∧ n ≤ c ∧ c ≤ maxLen ∧ (A = none → n = 0 ∧ c = 0) ∧ (c = 0 ∨ ∃ elems spr, d = .slice elems spr ∧ elems.length + spr.length = c) ∧
      ∀ a, A = some a → ∀ i, i < c → ∀ (j : Nat) (f : Field), fs[j]? = some f → ∃ (u : Value) (y : DataW H × List MemPlace) (m : Nat), w.cell? ⟨a.block, a.off + i * fs.size + j, none⟩ = some u ∧ a.spot = none ∧ a.block < w.heap.size ∧ DataW.trod enc P w 0 (fun _ => true) true m f.type [u] = some y := by
  obtain ⟨a0, len, cap, rfl⟩ := okWide_slice ht hv
  obtain ⟨fuel, hf⟩ := h
  rcases open_slice_fields ht he hone hC hf with ⟨hcs, _⟩ | ⟨a, len', cap', m, D, Pl, hcs, _, hl, hm, hmm, hx, hi⟩
  · simp [Value.cells] at hcs
    obtain ⟨rfl, rfl, rfl⟩ := hcs
    exact ⟨none, 0, 0, rfl, Nat.le_refl _, by decide, fun _ => ⟨rfl, rfl⟩, .inl rfl, fun a ha => by cases ha⟩
  · simp [Value.cells] at hcs
    obtain ⟨rfl, rfl, rfl⟩ := hcs
    simp at hmm
    refine ⟨some a, len, cap, rfl, hl, hm, (fun h => by cases h), .inr ?_, fun a' ha' i hic j f hj => ?_⟩
    · simp only [Prod.mk.injEq] at hx
      exact ⟨_, _, hx.1, by simp; omega⟩
    cases ha'
    obtain ⟨ys, nn, _, _, _, hfl⟩ := hi i (by omega)
    obtain ⟨u, y, hc, _, hty⟩ := hfl j f hj
    have hb := World.block_lt_of_cell? w _ hc
    have hspot : a.spot = none ∧ w.cell? ⟨a.block, a.off + i * fs.size + j, none⟩ = some u := by
      obtain ⟨ab, ao, sq⟩ := a
      have hs0 : (⟨ab, ao, sq⟩ : Addr).spot = none := by
        obtain ⟨ys0, _, _, _, hys0, hf0⟩ := hi i (by omega)
        obtain ⟨ys1, _, _, _, hys1, hf1⟩ := hi 0 (by omega)
        have hlt : 0 < fs.size := by have := (Array.getElem?_eq_some_iff.1 hj).1; omega
        obtain ⟨u0, _, hc0, _, _⟩ := hf1 0 fs[0] (Array.getElem?_eq_getElem hlt)
        simp [Addr.add] at hc0
        cases sq with
        | none => rfl
        | some s => simp [World.cell?] at hc0; split at hc0 <;> simp at hc0
      have hs1 : sq = none := hs0
      subst hs1
      refine ⟨rfl, ?_⟩
      rw [Addr.add_mid, ← Nat.add_assoc] at hc
      exact hc
    have hb' : a.block < w.heap.size := by
      have hh := World.block_lt_of_cell? w _ hspot.2
      exact hh
    exact ⟨u, y, nn, hspot.2, hspot.1, hb', hty⟩

/-- The form's reach, for a slice argument. -/
theorem sized_rows {H : Type} {P : Program} {ts : List TypeId} {ds : List (DataW H)} (h : (DataW.weightsEach P ts ds).all (· ≤ reachBytes) = true) {j : Nat} {t e : TypeId} {d : DataW H} {c : Nat} (ht : ts[j]? = some t) (hd : ds[j]? = some d) (hu : P.underlying t = some (.slice e))
    (hc : c = 0 ∨ ∃ elems spr, d = .slice elems spr ∧ elems.length + spr.length = c) : c * P.bytesOf e ≤ reachBytes := by
  rcases hc with rfl | ⟨elems, spr, rfl, hl⟩
  · simp
  · rw [← hl]; exact sized_slice h ht hd hu

theorem i64_bounds {n : Int} (h : (Lit.int .i64 n).wf = true) : -9223372036854775808 ≤ n ∧ n ≤ 9223372036854775807 := bounds_i64 h

end Go.Proofs.YtdlifdmnfbjokaaDoor
