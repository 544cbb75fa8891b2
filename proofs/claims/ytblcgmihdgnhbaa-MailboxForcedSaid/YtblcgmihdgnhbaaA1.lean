/- Package mailbox: a box in memory; New, Count, Put. -/
import Derived.Test.YtblcgmihdgnhbaaCut
import Derived.Test.YtblcgmihdgnhbaaDelN
import Derived.Test.YtblcgmihdgnhbaaRow
import Derived.BigQuiet
import Derived.Deep.QuietTactic
import Derived.Deep.RegionLaw
namespace Go.Proofs.Ytblcgmihdgnhbaa
open Go.RowKit

/-- A box lies whole in block g: its size, its count, its eight lists, each a row of its own. -/
structure BoxAt (g : Nat) (sz cnt : Int) (vs : Nat → Value) (ls : Nat → List Int) (C : Array Value) (w : World) : Prop where
  blk : w.heap[g]? = some (.cells C 47 (0, 0))
  size : C.size = 10
  c0 : C[0]? = some (.int .i64 sz)
  c1 : C[1]? = some (.int .i64 cnt)
  cv : ∀ p, p < 8 → C[2 + p]? = some (vs p)
  own : ∀ p, p < 8 → w.ownsRow (g + 1) 3 1 (vs p) (ls p).length (intsV (ls p))
  apart : ∀ p q, p < 8 → q < 8 → p ≠ q → ApartV (vs p) (vs q)

theorem BoxAt.lt {g : Nat} {sz cnt : Int} {vs : Nat → Value} {ls : Nat → List Int} {C : Array Value} {w : World} (h : BoxAt g sz cnt vs ls C w) : g < w.heap.size := by
  have := h.blk
  exact (Array.getElem?_eq_some_iff.1 this).1

theorem BoxAt.cell {g : Nat} {sz cnt : Int} {vs : Nat → Value} {ls : Nat → List Int} {C : Array Value} {w : World} (h : BoxAt g sz cnt vs ls C w) (i : Nat) : w.cell? ⟨g, i, none⟩ = C[i]? := cell_of_row w g i C 47 (0, 0) h.blk
theorem BoxAt.frozen {g : Nat} {sz cnt : Int} {vs : Nat → Value} {ls : Nat → List Int} {C : Array Value} {w : World} (h : BoxAt g sz cnt vs ls C w) (i : Nat) : w.frozen? ⟨g, i, none⟩ = false := frozen_of_row w g i C 47 h.blk

theorem BoxAt.below {g : Nat} {sz cnt : Int} {vs : Nat → Value} {ls : Nat → List Int} {C : Array Value} {w w' : World} (h : BoxAt g sz cnt vs ls C w) (hb : Below w.heap.size w w') : BoxAt g sz cnt vs ls C w' :=
  ⟨(hb.block _ h.lt).trans h.blk, h.size, h.c0, h.c1, h.cv, fun p hp => own_below (h.own p hp) hb (Nat.le_refl _), h.apart⟩

/-- Of what was there when the box was made nothing but the box turns. -/
theorem BoxAt.drewN {g : Nat} {sz cnt : Int} {vs : Nat → Value} {ls : Nat → List Int} {C : Array Value} {w : World} (h : BoxAt g sz cnt vs ls C w) (q : Nat) : BoxAt g sz cnt vs ls C (w.drewN q) :=
  ⟨h.blk, h.size, h.c0, h.c1, h.cv, h.own, h.apart⟩

set_option maxHeartbeats 400000 in
theorem New_ok (n : Int) (w : World) (h1 : 1 ≤ n) (h2 : n ≤ 64) :
    Calls Try.prog 6 #[.int .i64 n] w fun e w' => ∃ C, e = .returned (.tuple #[.pointer (some ⟨w.heap.size, 0, none⟩), .int .i64 0]) ∧
      BoxAt w.heap.size n 0 (fun _ => .slice none 0 0) (fun _ => []) C w' ∧ Below w.heap.size w w' := by
  go_enter Try.func6, Try.ntmps6
  go_wp2
  go_ret2
  refine ⟨_, rfl, ⟨heap_alloc_new w _, rfl, rfl, rfl, fun p hp => ?_, fun p _ => World.ownsRow_nil _ _ _ _, fun _ _ _ _ _ => apart_nil⟩, (Below.refl _ _).alloc (Nat.le_refl _) _⟩
  have h : p = 0 ∨ p = 1 ∨ p = 2 ∨ p = 3 ∨ p = 4 ∨ p = 5 ∨ p = 6 ∨ p = 7 := by omega
  rcases h with rfl | rfl | rfl | rfl | rfl | rfl | rfl | rfl <;> rfl

set_option maxHeartbeats 400000 in
theorem Count_any {g : Nat} {sz cnt : Int} {vs : Nat → Value} {ls : Nat → List Int} {C : Array Value} {w : World} (h : BoxAt g sz cnt vs ls C w) :
    Calls Try.prog 10 #[.pointer (some ⟨g, 0, none⟩)] w fun e w' => e = .returned (.int .i64 cnt) ∧ w = w' := by
  have c1 := (h.cell 1).trans h.c1
  go_enter Try.func10, Try.ntmps10
  go_wp2
  go_ret
  exact ⟨rfl, rfl⟩

theorem int_info : (Try.prog.info? 3).map (fun i => (i.zero, i.size, i.bytes)) = some (some (.int .i64 0), 1, 8) := by kernel_rfl

set_option maxRecDepth 100000 in
set_option maxHeartbeats 2000000 in
theorem Put_full {g : Nat} {sz cnt : Int} {vs : Nat → Value} {ls : Nat → List Int} {C : Array Value} {w : World} (h : BoxAt g sz cnt vs ls C w) (p x : Int) (hp0 : 0 ≤ p) (hp : p < 8) (hc : cnt = sz) :
    Calls Try.prog 8 #[.pointer (some ⟨g, 0, none⟩), .int .i64 p, .int .i64 x] w fun e w' => e = .returned (.int .i64 9) ∧ ∃ q, w' = w.drewN q := by
  have c1 := (h.cell 1).trans h.c1
  have c0 := (h.cell 0).trans h.c0
  have hcs : (cnt == sz) = true := beq_iff_eq.2 hc
  clear hc
  go_enter Try.func8, Try.ntmps8
  go_wp2
  go_quiet (fail)
  go_wp2
  go_ret
  exact ⟨rfl, _, rfl⟩
end Go.Proofs.Ytblcgmihdgnhbaa
