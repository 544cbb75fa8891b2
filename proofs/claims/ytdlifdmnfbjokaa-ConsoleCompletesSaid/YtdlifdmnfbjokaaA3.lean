/- Package console: the sorted verbs; slices.IsSorted; slices.Equal of words. -/
import Derived.Test.YtdlifdmnfbjokaaA2
import Derived.BigQuiet
import Derived.Deep.QuietTactic
namespace Go.Proofs.Ytdlifdmnfbjokaa
open Go.RowKit Go.Sort

def sortedL : List (List UInt8) := [[97, 99, 99, 101, 112, 116], [99, 111, 110, 116, 97, 99, 116], [100, 105, 114, 101, 99, 116], [100, 114, 111, 112], [104, 101, 97, 100, 105, 110, 103], [104, 101, 105, 103, 104, 116], [104, 111, 108, 100], [108, 97, 110, 100], [111, 102, 102, 101, 114], [115, 112, 101, 101, 100]]
theorem pre_empty (v : List UInt8) : pre ByteArray.empty v = true := by cases v <;> rfl
theorem comp_empty : comp ByteArray.empty = sortedL := by
  have hf : verbsL.filter (pre ByteArray.empty) = verbsL := List.filter_eq_self.2 fun v _ => pre_empty v
  unfold comp
  rw [hf]
  refine List.Perm.eq_of_pairwise (le := fun a b : List UInt8 => le a b = true) (fun a b _ _ h1 h2 => le_anti a b h1 h2) (List.pairwise_mergeSort (le := le) le_tr le_tot _) ?_ ?_
  · decide
  · exact (List.mergeSort_perm _ le).trans (List.isPerm_iff.1 (by decide))
theorem sorted_filter (s : ByteArray) : sortedL.filter (pre s) = comp s := by
  rw [← comp_empty]
  have hf : verbsL.filter (pre ByteArray.empty) = verbsL := List.filter_eq_self.2 fun v _ => pre_empty v
  unfold comp
  rw [hf, filter_sort]
theorem take_filterG (V : List (List UInt8)) (s : ByteArray) {k : Nat} (hk : k < V.length) : (V.take (k + 1)).filter (pre s) = if pre s V[k] = true then (V.take k).filter (pre s) ++ [V[k]] else (V.take k).filter (pre s) := by
  rw [List.take_succ_eq_append_getElem hk, List.filter_append]
  by_cases h : pre s V[k] = true
  · simp [h]
  · simp [h]
def wordsB (l : List (List UInt8)) : Array ByteArray := (l.map fun x => (⟨x.toArray⟩ : ByteArray)).toArray
theorem down_sorted : Lib.downOK (fun x y => decide (x.data.toList < y.data.toList)) (wordsB sortedL) ((wordsB sortedL).size - 1) = true := by decide
theorem IsSorted_any (A : Option Addr) (c : Nat) (w : World) (hA : Sl w w.heap.size 1 A 10 (rowW sortedL)) : Calls Try.prog 5 #[.slice A 10 c] w fun e w' => e = .returned (.bool true) ∧ ∃ q, w' = w.drewN q := by
  obtain ⟨b, off, rfl, hb, hr⟩ := hA (by omega)
  have h := AnyO.slices_IsSorted_string Try.lays11 b off c (wordsB sortedL) w (fun i hi => by
    have hi' : i < 10 := hi
    have := hr i hi' 0 _ rfl
    rw [Nat.mul_one, Nat.add_zero] at this
    rw [this]
    have hl : i < sortedL.length := hi'
    rw [getElem!_pos sortedL i hl, getElem!_pos (wordsB sortedL) i hi]
    simp [wordsB]) (by decide)
  rw [down_sorted] at h
  exact h

theorem words_row {w : World} {N n : Nat} {A : Option Addr} {l : List (List UInt8)} (h : Sl w N 1 A n (rowW l)) (hn : 0 < n) : ∃ b off, A = some ⟨b, off, none⟩ ∧ b < N ∧ ∀ i, i < n → w.cell? ⟨b, off + i, none⟩ = some (.string ⟨l[i]!.toArray⟩) :=
  Sl.one (f := fun i => .string ⟨l[i]!.toArray⟩) h hn
set_option maxRecDepth 100000 in
set_option maxHeartbeats 2000000 in
theorem EqualW (A B : Option Addr) (l : List (List UInt8)) (n c d N : Nat) (w : World) (hA : Sl w N 1 A n (rowW l)) (hB : Sl w N 1 B n (rowW l)) (hn : n ≤ 1000) :
    Calls Try.prog 7 #[.slice A n c, .slice B n d] w fun e w' => e = .returned (.bool true) ∧ ∃ q, w' = w.drewN q := by
  have HA := Lib.hid hA
  have HB := Lib.hid hB
  clear hA hB
  go_enter Try.func7, Try.ntmps7
  go_wp2
  go_loopw [13] (fun k wr => ∃ j : Nat, j ≤ n ∧ k = .int .i64 j ∧ ∃ q, wr = w.drewN q) (fun k _ => n - (intOf k).toNat)
  case atStart => exact ⟨0, by omega, rfl, 0, rfl⟩
  case round =>
    obtain ⟨j, hj, rfl, q, rfl⟩ := hrel
    by_cases hlt : j < n
    · obtain ⟨b, off, rfl, hb, hc⟩ := words_row HA.out (by omega)
      obtain ⟨b2, off2, rfl, hb2, hc2⟩ := words_row HB.out (by omega)
      have c1 := hc j hlt
      have c2 := hc2 j hlt
      clear hc hc2
      generalize (⟨l[j]!.toArray⟩ : ByteArray) = x at *
      have l1 : (j : Int) < (n : Int) := by omega
      have l0 : (0 : Int) ≤ (j : Int) := by omega
      go_wp2
      go_quiet (fail)
      go_wp2
      go_roundw
      case rel => exact ⟨j + 1, by omega, by go_num, _, rfl⟩
      case measure => simp [intOf]; omega
    · go_wp2
      go_ret
      exact ⟨rfl, q, rfl⟩
end Go.Proofs.Ytdlifdmnfbjokaa
