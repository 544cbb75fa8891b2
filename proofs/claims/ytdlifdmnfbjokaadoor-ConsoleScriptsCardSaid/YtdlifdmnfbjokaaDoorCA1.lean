/- Package console: verbs, Index, verb, hasNumber, hasFix, Check. -/
import Derived.Test.YtdlifdmnfbjokaaDoorCP0
import Derived.Test.YtdlifdmnfbjokaaDoorMore
namespace Go.Proofs.YtdlifdmnfbjokaaDoor
open Go.RowKit

def wordsV (l : List ByteArray) : List Value := l.map Value.string

set_option maxHeartbeats 1000000 in
theorem verbs_any (w : World) : Calls Tryd.prog 20 #[] w fun e w' => e = .returned (.slice (some ⟨w.heap.size, 0, none⟩) 10 10) ∧ w' = w.alloc (.cells (wordsV vbs).toArray 9) := by
  have h : (wordsV vbs).toArray = #[.string (ByteArray.mk #[104, 101, 105, 103, 104, 116]), .string (ByteArray.mk #[104, 101, 97, 100, 105, 110, 103]), .string (ByteArray.mk #[115, 112, 101, 101, 100]), .string (ByteArray.mk #[100, 105, 114, 101, 99, 116]), .string (ByteArray.mk #[104, 111, 108, 100]), .string (ByteArray.mk #[99, 111, 110, 116, 97, 99, 116]), .string (ByteArray.mk #[108, 97, 110, 100]), .string (ByteArray.mk #[111, 102, 102, 101, 114]), .string (ByteArray.mk #[97, 99, 99, 101, 112, 116]), .string (ByteArray.mk #[100, 114, 111, 112])] := rfl
  rw [h]
  go_enter Tryd.func20, Tryd.ntmps20
  go_wp2
  go_ret
  exact ⟨rfl, rfl⟩

theorem num_any (v : Int) (w : World) : Calls Tryd.prog 12 #[.int .i64 v] w fun e w' => e = .returned (.bool (numV v)) ∧ w = w' := by
  unfold numV
  go_enter Tryd.func12, Tryd.ntmps12
  go_wp2
  go_ret
  exact ⟨rfl, rfl⟩
theorem fix_any (v : Int) (w : World) : Calls Tryd.prog 14 #[.int .i64 v] w fun e w' => e = .returned (.bool (fixV v)) ∧ w = w' := by
  by_cases h : 2 < v
  · have HV : Hid (fixV v = decide (v ≤ 7)) := Lib.hid (by unfold fixV; rw [decide_eq_true h]; rfl)
    have b1 : decide (2 < v) = true := decide_eq_true h
    clear h
    go_enter Tryd.func14, Tryd.ntmps14
    go_wp2
    go_ret
    exact ⟨by rw [HV.out]; rfl, rfl⟩
  · have HV : Hid (fixV v = false) := Lib.hid (by unfold fixV; rw [decide_eq_false h]; rfl)
    have b1 : decide (2 < v) = false := decide_eq_false h
    clear h
    go_enter Tryd.func14, Tryd.ntmps14
    go_wp2
    go_ret
    exact ⟨by rw [HV.out]; rfl, rfl⟩

theorem idxL_drop (s : ByteArray) (l : List ByteArray) (j : Nat) (h : j < l.length) : idxL s (l.drop j) j = if l[j] = s then (j : Int) else idxL s (l.drop (j + 1)) (j + 1) := by
  rw [List.drop_eq_getElem_cons h, idxL]
theorem idxL_end (s : ByteArray) (l : List ByteArray) : idxL s (l.drop l.length) l.length = -1 := by
  rw [List.drop_length]; rfl
theorem str_beq {x y : ByteArray} : (x.toList == y.toList) = decide (x = y) := by
  rw [ByteArray.toList_eq, ByteArray.toList_eq]
  by_cases h : x = y
  · subst h; simp
  · rw [decide_eq_false h, beq_eq_false_iff_ne]
    intro e
    refine h ?_
    cases x with | mk a => cases y with | mk b => exact congrArg ByteArray.mk (Array.toList_inj.1 e)

set_option maxRecDepth 100000 in
set_option maxHeartbeats 1000000 in
/-- slices.Index over words that lie in one block. -/
theorem Index_any (s : ByteArray) (l : List ByteArray) (B n : Nat) (w : World) (hn : l.length = n) (hN : n ≤ 1000)
    (HC : ∀ i : Nat, ∀ h : i < l.length, w.cell? ⟨B, i, none⟩ = some (.string (l[i]'h))) :
    Calls Tryd.prog 19 #[.slice (some ⟨B, 0, none⟩) n n, .string s] w fun e w' => e = .returned (.int .i64 (idxL s l 0)) ∧ w = w' := by
  have HC := Lib.hid HC
  have HN := Lib.hid hn
  go_enter Tryd.func19, Tryd.ntmps19
  go_wp2
  go_loop [8] (fun k => ∃ j : Nat, j ≤ n ∧ k = .int .i64 (j : Int) ∧ Hid (idxL s l 0 = idxL s (l.drop j) j)) (fun k => n - (intOf k).toNat)
  case atStart => exact ⟨0, by omega, rfl, Lib.hid (by rw [List.drop_zero])⟩
  case round =>
    obtain ⟨j, hj, rfl, HI⟩ := hrel
    by_cases hlt : j < n
    · have hl : j < l.length := by rw [HN.out]; exact hlt
      have hcell := HC.out j hl
      have hd := idxL_drop s l j hl
      have b1 : decide ((j : Int) < (n : Int)) = true := by simp; omega
      by_cases e : l[j] = s
      · rw [if_pos e] at hd
        have HR := Lib.hid (HI.out.trans hd)
        have hq : (s.toList == l[j].toList) = true := by rw [str_beq]; exact decide_eq_true e.symm
        clear e hd
        go_wp2
        go_ret
        exact ⟨by rw [HR.out]; rfl, rfl⟩
      · rw [if_neg e] at hd
        have HR := Lib.hid (HI.out.trans hd)
        have hq : (s.toList == l[j].toList) = false := by rw [str_beq]; exact decide_eq_false (fun h => e h.symm)
        clear e hd
        go_wp2
        go_round
        case rel => exact ⟨j + 1, by omega, by go_num, HR⟩
        case measure => simp [intOf]; omega
    · obtain rfl : n = j := by omega
      have HR : Hid (idxL s l 0 = -1) := Lib.hid (by rw [HI.out, ← HN.out]; exact idxL_end s l)
      go_wp2
      go_ret
      exact ⟨by rw [HR.out]; rfl, rfl⟩

set_option maxHeartbeats 1000000 in
theorem verb_any (s : ByteArray) (w : World) : Calls Tryd.prog 11 #[.string s] w fun e w' => e = .returned (.int .i64 (vIx s)) ∧ Below w.heap.size w w' := by
  have HI := Lib.hid (fun (W : World) (hc : ∀ i : Nat, ∀ h : i < vbs.length, (W.alloc (.cells (wordsV vbs).toArray 9)).cell? ⟨W.heap.size, i, none⟩ = some (.string (vbs[i]'h))) => Index_any s vbs W.heap.size 10 (W.alloc (.cells (wordsV vbs).toArray 9)) rfl (by omega) hc)
  have hcells : ∀ i : Nat, ∀ h : i < vbs.length, (w.alloc (.cells (wordsV vbs).toArray 9)).cell? ⟨w.heap.size, i, none⟩ = some (.string (vbs[i]'h)) := by
    intro i h
    rw [World.cell?_alloc_new]
    simp [wordsV, h]
  have HC := Lib.hid hcells
  have hb : Below w.heap.size w (w.alloc (.cells (wordsV vbs).toArray 9)) := (Below.refl _ w).alloc (Nat.le_refl _) _
  have HB := Lib.hid hb
  clear hcells hb
  go_enter Tryd.func11, Tryd.ntmps11
  go_wp2_with (first | (go_at_call 20; refine (verbs_any _).mono ?_; rintro e w' ⟨rfl, rfl⟩) | (go_at_call 19; refine (HI.out _ HC.out).mono ?_; rintro e w' ⟨rfl, rfl⟩))
  go_ret
  exact ⟨rfl, HB.out⟩
end Go.Proofs.YtdlifdmnfbjokaaDoor
