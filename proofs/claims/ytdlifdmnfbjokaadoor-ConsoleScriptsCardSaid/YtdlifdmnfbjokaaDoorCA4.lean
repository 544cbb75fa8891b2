/- Package console: Parse, its memory. -/
import Derived.Test.YtdlifdmnfbjokaaDoorCA3
namespace Go.Proofs.YtdlifdmnfbjokaaDoor
open Go.RowKit
open Go.Lib hiding intOf

def PaP (r : Cm × Int) (w : World) : Ending → World → Prop := fun e w' => e = .returned (.tuple #[cmV r.1, .int .i64 r.2]) ∧ Below w.heap.size w w'

/-- The zero command's block. -/
def zc : Obj := .cells #[.string .empty, .string .empty, .int .i64 0, .string .empty] 23
/-- Behind Split. -/
def splW (l : List ByteArray) (w : World) : World := ((w.alloc zc).alloc zc).alloc (.cells (l.map Value.string).toArray 9)
def PsP (l : List ByteArray) (w W : World) : Prop := Below (w.heap.size + 3) (splW l w) W
theorem size_al (w : World) (o : Obj) : (w.alloc o).heap.size = w.heap.size + 1 := by
  simp only [World.alloc, Array.size_push]
theorem PsP.self (l : List ByteArray) (w : World) : PsP l w (splW l w) := Below.refl _ _
theorem PsP.size {l : List ByteArray} {w W : World} (h : PsP l w W) : w.heap.size + 3 ≤ W.heap.size := by
  have h3 := Below.size h
  unfold splW at h3
  rw [size_al, size_al, size_al] at h3
  omega
theorem PsP.on {l : List ByteArray} {w W W2 : World} (h : PsP l w W) (h2 : Below W.heap.size W W2) : PsP l w W2 := Below.trans h (h2.mono h.size)
theorem PsP.below {l : List ByteArray} {w W : World} (h : PsP l w W) : Below w.heap.size w W := by
  have h1 : Below w.heap.size w (splW l w) := by
    unfold splW
    exact (((Below.refl _ w).alloc (Nat.le_refl _) _).alloc (by rw [size_al]; omega) _).alloc (by rw [size_al, size_al]; omega) _
  exact h1.trans (Below.mono h (by omega))
theorem spl_cell0 (l : List ByteArray) (w : World) (i : Nat) : (splW l w).cell? ⟨w.heap.size, i, none⟩ = (#[.string .empty, .string .empty, .int .i64 0, .string .empty] : Array Value)[i]? := by
  unfold splW
  rw [World.cell?_alloc_lt _ _ _ (by rw [size_al, size_al]; show w.heap.size < _; omega), World.cell?_alloc_lt _ _ _ (by rw [size_al]; show w.heap.size < _; omega)]
  exact World.cell?_alloc_new _ _ _ _
theorem spl_cell1 (l : List ByteArray) (w : World) (i : Nat) : (splW l w).cell? ⟨w.heap.size + 1, i, none⟩ = (#[.string .empty, .string .empty, .int .i64 0, .string .empty] : Array Value)[i]? := by
  unfold splW
  rw [World.cell?_alloc_lt _ _ _ (by rw [size_al, size_al]; show w.heap.size + 1 < _; omega)]
  have := World.cell?_alloc_new (w.alloc zc) #[.string .empty, .string .empty, .int .i64 0, .string .empty] 23 i
  rw [size_al] at this
  exact this
theorem spl_cell2 (l : List ByteArray) (w : World) (i : Nat) : (splW l w).cell? ⟨w.heap.size + 2, i, none⟩ = (l.map Value.string).toArray[i]? := by
  unfold splW
  have := World.cell?_alloc_new ((w.alloc zc).alloc zc) (l.map Value.string).toArray 9 i
  rw [size_al, size_al] at this
  exact this
/-- What is known of the first blocks. -/
def PsF (l : List ByteArray) (w W : World) : Prop :=
  PsP l w W ∧ w.heap.size + 3 ≤ W.heap.size ∧
  (W.cell? ⟨w.heap.size, 0, none⟩ = some (.string .empty) ∧ W.cell? ⟨w.heap.size, 1, none⟩ = some (.string .empty) ∧ W.cell? ⟨w.heap.size, 2, none⟩ = some (.int .i64 0) ∧ W.cell? ⟨w.heap.size, 3, none⟩ = some (.string .empty)) ∧
  (W.cell? ⟨w.heap.size + 1, 0, none⟩ = some (.string .empty) ∧ W.cell? ⟨w.heap.size + 1, 1, none⟩ = some (.string .empty) ∧ W.cell? ⟨w.heap.size + 1, 2, none⟩ = some (.int .i64 0) ∧ W.cell? ⟨w.heap.size + 1, 3, none⟩ = some (.string .empty)) ∧
  (∀ i, W.frozen? ⟨w.heap.size, i, none⟩ = false) ∧
  ∀ i, i < l.length → W.cell? ⟨w.heap.size + 2, i, none⟩ = some (.string (pk l i))
theorem PsP.facts {l : List ByteArray} {w W : World} (h : PsP l w W) : PsF l w W := by
  have h0 : ∀ i, W.cell? ⟨w.heap.size, i, none⟩ = (#[.string .empty, .string .empty, .int .i64 0, .string .empty] : Array Value)[i]? := fun i => (Below.cell h (p := ⟨w.heap.size, i, none⟩) (by show w.heap.size < w.heap.size + 3; omega)).trans (spl_cell0 l w i)
  have h1 : ∀ i, W.cell? ⟨w.heap.size + 1, i, none⟩ = (#[.string .empty, .string .empty, .int .i64 0, .string .empty] : Array Value)[i]? := fun i => (Below.cell h (p := ⟨w.heap.size + 1, i, none⟩) (by show w.heap.size + 1 < w.heap.size + 3; omega)).trans (spl_cell1 l w i)
  refine ⟨h, h.size, ⟨h0 0, h0 1, h0 2, h0 3⟩, ⟨h1 0, h1 1, h1 2, h1 3⟩, fun i => ?_, fun i hi => ?_⟩
  · rw [Below.frozen h (p := ⟨w.heap.size, i, none⟩) (by show w.heap.size < w.heap.size + 3; omega)]
    unfold splW World.frozen? World.alloc
    have e : ((((w.heap.push zc).push zc).push (Obj.cells (l.map Value.string).toArray 9))[w.heap.size]?) = some zc := by
      rw [Array.getElem?_push, if_neg (by simp; omega), Array.getElem?_push, if_neg (by simp), Array.getElem?_push_size]
    rw [show ((((w.heap.push zc).push zc).push (Obj.cells (l.map Value.string).toArray 9))[(⟨w.heap.size, i, none⟩ : Addr).block]?) = some zc from e]
    simp [zc]
  · rw [Below.cell h (p := ⟨w.heap.size + 2, i, none⟩) (by show w.heap.size + 2 < w.heap.size + 3; omega), spl_cell2]
    unfold pk
    simp [hi, List.getD_eq_getElem?_getD]
end Go.Proofs.YtdlifdmnfbjokaaDoor
