/- Package console: the verbs, prefixes, slices.Sort of words. -/
import Derived.Test.YtdlifdmnfbjokaaPl
import Derived.Test.YtdlifdmnfbjokaaMore
import Derived.Test.YtdlifdmnfbjokaaSh
import Derived.Test.YtdlifdmnfbjokaaShI
import Derived.Shelf.SlSortCmp.NoneTotal
import Derived.Shelf.Slices.In.SortNone
import Derived.Shelf.Strings.Prefix
import Derived.Shelf.SlSorted.IsSorted
namespace Go.Proofs.Ytdlifdmnfbjokaa
open Go.RowKit Go.Sort

theorem below_sort {α : Type} [Inhabited α] (enc : α → Value) (w : World) (blk off n B : Nat) (d : Array α) (os : Array Obj) (hB : B ≤ blk) (hBw : B ≤ w.heap.size) : Below B w (sortWorld enc w blk off n d os) := by
  refine ⟨rfl, rfl, rfl, ?_, fun k hk => ?_⟩
  · show w.heap.size ≤ ((w.heap.modify blk (onCells (putCells enc off d))) ++ os).size
    simp
  · show ((w.heap.modify blk (onCells (putCells enc off d))) ++ os)[k]? = w.heap[k]?
    have h1 : blk ≠ k := by omega
    have h2 : k < w.heap.size := by omega
    rw [Array.getElem?_append_left (by simpa using h2), Array.getElem?_modify, if_neg h1]

def verbsL : List (List UInt8) := [[104, 101, 105, 103, 104, 116], [104, 101, 97, 100, 105, 110, 103], [115, 112, 101, 101, 100], [100, 105, 114, 101, 99, 116], [104, 111, 108, 100], [99, 111, 110, 116, 97, 99, 116], [108, 97, 110, 100], [111, 102, 102, 101, 114], [97, 99, 99, 101, 112, 116], [100, 114, 111, 112]]
def wordV (l : List (List UInt8)) : List Value := l.map encStr
theorem wordV_snoc (l : List (List UInt8)) (x : List UInt8) : wordV l ++ [encStr x] = wordV (l ++ [x]) := by simp [wordV]
theorem wordV_len (l : List (List UInt8)) : (wordV l).length = l.length := by simp [wordV]

set_option maxHeartbeats 1000000 in
theorem verbs_any (w : World) : Calls Try.prog 8 #[] w fun e w' => e = .returned (.slice (some ⟨w.heap.size, 0, none⟩) 10 10) ∧ w' = w.alloc (.cells (wordV verbsL).toArray 9) := by
  have h : (wordV verbsL).toArray = #[.string (ByteArray.mk #[104, 101, 105, 103, 104, 116]), .string (ByteArray.mk #[104, 101, 97, 100, 105, 110, 103]), .string (ByteArray.mk #[115, 112, 101, 101, 100]), .string (ByteArray.mk #[100, 105, 114, 101, 99, 116]), .string (ByteArray.mk #[104, 111, 108, 100]), .string (ByteArray.mk #[99, 111, 110, 116, 97, 99, 116]), .string (ByteArray.mk #[108, 97, 110, 100]), .string (ByteArray.mk #[111, 102, 102, 101, 114]), .string (ByteArray.mk #[97, 99, 99, 101, 112, 116]), .string (ByteArray.mk #[100, 114, 111, 112])] := rfl
  rw [h]
  go_enter Try.func8, Try.ntmps8
  go_wp2
  go_ret
  exact ⟨rfl, rfl⟩
theorem pre_any (v s : ByteArray) (w : World) : Calls Try.prog 6 #[.string v, .string s] w fun e w' => e = .returned (.bool (Lib.hasPrefix v.data.toList s.data.toList)) ∧ w = w' :=
  (Any.strings_HasPrefix Try.lays99 v s w).mono fun _ _ h => ⟨h.1, h.2.symm⟩

theorem Sort_words (b cap base : Nat) (ss : List (List UInt8)) (n : Nat) (w : World) (hn : ss.length = n) (hown : w.ownsRow base 9 1 (.slice (some ⟨b, 0, none⟩) n cap) n (wordV ss)) (hN : n ≤ 1000) :
    Calls Try.prog 9 #[.slice (some ⟨b, 0, none⟩) n cap] w fun e w' => e = .returned (.tuple #[]) ∧ (∀ i, i < n → w'.cell? ⟨b, i, none⟩ = some (encStr (ss.mergeSort le)[i]!)) ∧ b < w'.heap.size ∧ ∀ B, B ≤ b → B ≤ w.heap.size → Below B w w' := by
  subst hn
  have hH : Holds encStr w b 0 ss.toArray := fun i hi => by
    have hi' : i < ss.length := by simpa using hi
    rw [Nat.zero_add, hown.cellAt i (by omega), getElem!_pos _ i hi]
    exact ⟨by simp [wordV, hi'], hown.frozenAt i⟩
  have hlt := (hown.lt b rfl).2
  have hcon := Any.slices_Sort_string Try.lays190 b 0 cap ss w hH hlt (by omega)
  change Calls Try.prog 9 _ _ _ at hcon
  refine hcon.mono ?_
  rintro e w' ⟨he, m, os, hw⟩
  have hw : w' = sortWorld encStr w b 0 m (ss.mergeSort le).toArray os := hw
  subst hw
  refine ⟨he, fun i hi => ?_, lt_sortWorld _ _ _ _ _ _ _ hlt, fun B h1 h2 => below_sort _ _ _ _ _ _ _ _ h1 h2⟩
  have := (holds_sortWorld encStr w b 0 m _ (ss.mergeSort le).toArray os hlt hH (by simp) i (by simpa using hi)).1
  rw [Nat.zero_add, getElem!_pos _ i (by simpa using hi)] at this
  rw [this, getElem!_pos (ss.mergeSort le) i (by simpa using hi)]
  simp
end Go.Proofs.Ytdlifdmnfbjokaa
