/- Package clock: Order refused, Order of nothing; slices.Sort of places. -/
import Derived.Test.YtchpgknaaofapaaA16
import Derived.Test.YtchpgknaaofapaaShS
import Derived.Shelf.SlSortCmp.NoneTotal
import Derived.Shelf.Slices.In.SortNone
namespace Go.Proofs.Ytchpgknaaofapaa
open Go.RowKit Go.Sort

theorem sort_range {N : Nat} {p : Nat → Nat} (hp : ((List.range N).map p).Perm (List.range N)) :
    ((List.range N).map fun i => ((p i : Nat) : Int)).mergeSort (fun x y => decide (x ≤ y)) = (List.range N).map fun i : Nat => (i : Int) := by
  refine List.Perm.eq_of_pairwise (le := fun a b : Int => a ≤ b) (fun a b _ _ h1 h2 => Int.le_antisymm h1 h2) ?_ ?_ ?_
  · have := List.pairwise_mergeSort (le := fun x y : Int => decide (x ≤ y)) (fun a b c h1 h2 => by simp at *; omega) (fun a b => by simp; omega) ((List.range N).map fun i => ((p i : Nat) : Int))
    exact this.imp (fun h => by simpa using h)
  · rw [List.pairwise_map]
    exact List.pairwise_lt_range.imp (fun h => by omega)
  · refine (List.mergeSort_perm _ _).trans ?_
    have := hp.map (fun i : Nat => (i : Int))
    rw [List.map_map] at this
    exact this

def SortPost (w : World) (b N : Nat) (e : Ending) (w' : World) : Prop := e = .returned (.tuple #[]) ∧ (∀ i, i < N → w'.cell? ⟨b, i, none⟩ = some (.int .i64 (i : Nat))) ∧ b < w'.heap.size ∧ ∀ B, B ≤ b → B ≤ w.heap.size → Below B w w'

theorem Sort_perm (b cap N base : Nat) (p : Nat → Nat) (w : World) (hp : ((List.range N).map p).Perm (List.range N)) (hown : w.ownsRow base 3 1 (.slice (some ⟨b, 0, none⟩) N cap) N (intsV ((List.range N).map fun i => ((p i : Nat) : Int)))) (hN : N ≤ 1000) :
    Calls Try.prog 19 #[.slice (some ⟨b, 0, none⟩) N cap] w (SortPost w b N) := by
  have hlen : ((List.range N).map fun i => ((p i : Nat) : Int)).length = N := by simp
  have hH : Holds (Value.int .i64) w b 0 ((List.range N).map fun i => ((p i : Nat) : Int)).toArray := fun i hi => by
    have hi' : i < N := by simpa using hi
    rw [Nat.zero_add, hown.cellAt i (by omega), intsV_get hi', getElem!_pos _ i hi]
    exact ⟨by simp, hown.frozenAt i⟩
  have hlt := (hown.lt b rfl).2
  have hcon := Any.slices_Sort_int Try.l19 b 0 cap ((List.range N).map fun i => ((p i : Nat) : Int)) w hH hlt (by rw [hlen]; omega)
  rw [hlen, sort_range hp] at hcon
  change Calls Try.prog 19 _ _ _ at hcon
  refine hcon.mono ?_
  rintro e w' ⟨he, n, os, hw⟩
  have hw : w' = sortWorld (Value.int .i64) w b 0 n ((List.range N).map fun i : Nat => (i : Int)).toArray os := hw
  subst hw
  refine ⟨he, fun i hi => ?_, lt_sortWorld _ _ _ _ _ _ _ hlt, fun B h1 h2 => below_sort _ _ _ _ _ _ _ _ h1 h2⟩
  have := (holds_sortWorld (Value.int .i64) w b 0 n _ ((List.range N).map fun i : Nat => (i : Int)).toArray os hlt hH (by simp) i (by simpa using hi)).1
  rw [Nat.zero_add, getElem!_pos _ i (by simpa using hi)] at this
  simpa using this

theorem Sort_zero (A : Option Addr) (cap : Nat) (w : World) : Calls Try.prog 19 #[.slice A 0 cap] w fun e w' => e = .returned (.tuple #[]) ∧ w = w' := by
  have h := Any.slices_Sort_int_none Try.l19 A cap w
  change Calls Try.prog 19 _ _ _ at h
  exact h.mono fun _ _ ⟨h1, h2⟩ => ⟨h1, h2.symm⟩

theorem SortF_zero (A : Option Addr) (cap : Nat) (fv : Value) (w : World) : Calls Try.prog 23 #[.slice A 0 cap, fv] w fun e w' => e = .returned (.tuple #[]) ∧ w = w' := by
  have h := AnyF.slices_SortFunc_none { Try.l23 with } A cap fv w
  change Calls Try.prog 23 _ _ _ at h
  exact h.mono fun _ _ ⟨h1, h2⟩ => ⟨h1, h2.symm⟩

set_option maxHeartbeats 1000000 in
theorem Order_no (A : Option Addr) (c : Nat) (l : List Ev) (n : Nat) (hln : l.length = n) (w : World) (hA : EvsAt w w.heap.size A l) (hn : n ≤ c) (hc : c ≤ maxLen) (he : checkE l ≠ 0) :
    Calls Try.prog 17 #[.slice A n c] w fun e w' => e = .returned (.tuple #[.slice none 0 0, .int .i64 (checkE l)]) ∧ Below w.heap.size w w' := by
  have hne : (checkE l != 0) = true := by simp [he]
  have hb0 : Below w.heap.size w (w.alloc (.cells #[.slice A n c] 22)) := (Below.refl _ _).alloc (Nat.le_refl _) _
  have hcon := Lamport_no A c l n hln _ ((hA.below hb0).more hb0.size) hn hc he
  generalize checkE l = r at *
  clear he hA hln
  go_enter Try.func17, Try.ntmps17
  go_wp2_with (go_at_call 12; refine hcon.mono ?_; rintro e w1 ⟨rfl, hb1⟩)
  go_ret2
  have hz := hb1.size
  simp at hz
  exact ⟨rfl, (hb0.trans (hb1.mono (by simp))).alloc (by omega) _⟩

end Go.Proofs.Ytchpgknaaofapaa
