/- Package snapshot: rows; Check. -/
import Derived.Test.YtjmdebeffpdpcaaGreatDoorSA1
import Derived.Test.YtjmdebeffpdpcaaGreatDoorRw
import Derived.Test.YtjmdebeffpdpcaaGreatDoorStr
import Derived.BigQuiet
import Derived.IntWalk
import Derived.Deep.DeepMust
namespace Go.Proofs.YtjmdebeffpdpcaaGreatDoor
open Go.RowKit

/-- A key and its value. -/
abbrev Rw := ByteArray × ByteArray
def rwV (x : Rw) : List Value := [.string x.1, .string x.2]
theorem rwV_len (x : Rw) : (rwV x).length = 2 := rfl
theorem rwV_one (x : Rw) : ∀ u ∈ rwV x, u.oneCell' = true := fun u hu => by
  simp only [rwV, List.mem_cons, List.not_mem_nil, or_false] at hu
  rcases hu with rfl | rfl <;> rfl
abbrev rws (l : List Rw) : List Value := rowsV rwV l

/-- What is wrong with row i. -/
def ckAt (l : List Rw) (i : Nat) : Int := if !(keyB (l[i]!).1 && valB (l[i]!).2) then 3 else if decide (0 < i) && !lsS (l[i - 1]!).1 (l[i]!).1 then 7 else 0
/-- The first thing that is wrong with the first k rows. -/
def ckUp (l : List Rw) : Nat → Int
  | 0 => 0
  | k + 1 => if ckUp l k = 0 then ckAt l k else ckUp l k
def checkL (l : List Rw) : Int := if 64 < l.length then 2 else ckUp l l.length
theorem ckUp_stop {l : List Rw} {k : Nat} (h0 : ckUp l k = 0) (h : ckAt l k ≠ 0) : ∀ m, k < m → ckUp l m = ckAt l k
  | 0, hm => by omega
  | m + 1, hm => by
    unfold ckUp
    by_cases e : k = m
    · subst e; rw [if_pos h0]
    · rw [ckUp_stop h0 h m (by omega), if_neg h]
theorem ckUp_zero {l : List Rw} : ∀ {k : Nat}, ckUp l k = 0 → ∀ i, i < k → ckAt l i = 0
  | 0, _, i, hi => by omega
  | k + 1, h, i, hi => by
    unfold ckUp at h
    by_cases e : ckUp l k = 0
    · rw [if_pos e] at h
      by_cases e2 : i = k
      · subst e2; exact h
      · exact ckUp_zero e i (by omega)
    · rw [if_neg e] at h; exact absurd h e

def CheckP (l : List Rw) (w : World) (e : Ending) (w' : World) : Prop := e = .returned (.int .i64 (checkL l)) ∧ Below w.heap.size w w'

set_option maxRecDepth 100000 in
set_option maxHeartbeats 4000000 in
theorem Check_any (A : Option Addr) (n c : Nat) (l : List Rw) (w : World) (hA : Sl w w.heap.size 2 A n (fun i => rwV l[i]!)) (hl : l.length = n) (hz : ∀ x ∈ l, x.1.size ≤ maxLen ∧ x.2.size ≤ maxLen) (hn : n ≤ maxLen) :
    Calls Tryz.prog 28 #[.slice A n c] w (CheckP l w) := by
  unfold maxLen at hn
  subst hl
  have HA := Lib.hid hA
  have HZ := Lib.hid hz
  clear hA hz
  by_cases h64 : 64 < l.length
  · have HC := Lib.hid (show checkL l = 2 by unfold checkL; rw [if_pos h64])
    go_enter Tryz.func28, Tryz.ntmps28
    go_wp2
    go_ret
    exact ⟨by rw [HC.out]; rfl, Below.refl _ _⟩
  · have HC := Lib.hid (show checkL l = ckUp l l.length by unfold checkL; rw [if_neg h64])
    go_enter Tryz.func28, Tryz.ntmps28
    go_wp2
    go_loopw [10] (fun x wr => ∃ j : Nat, j ≤ l.length ∧ x = .int .i64 j ∧ Hid (ckUp l j = 0) ∧ Below w.heap.size w wr) (fun x _ => l.length - (intOf x).toNat)
    case atStart => exact ⟨0, by omega, rfl, Lib.hid rfl, Below.refl _ _⟩
    case round =>
      obtain ⟨j, hj, rfl, HK, hbr⟩ := hrel
      have hzr := hbr.size
      by_cases hjn : j < l.length
      · obtain ⟨b, off, rfl, hb, hr⟩ := HA.out (by omega)
        have o0 : wr.cell? ⟨b, off + j * 2, none⟩ = some (.string (l[j]!).1) := (hbr.cell (p := ⟨b, _, none⟩) hb).trans (hr j hjn 0 _ rfl)
        have o1 : wr.cell? ⟨b, off + j * 2 + 1, none⟩ = some (.string (l[j]!).2) := (hbr.cell (p := ⟨b, _, none⟩) hb).trans (hr j hjn 1 _ rfl)
        have hsz := HZ.out l[j]! (by rw [getElem!_pos l j hjn]; exact List.getElem_mem hjn)
        have hj0 : (0 : Int) ≤ (j : Int) := by omega
        have hjl : (j : Int) < (l.length : Int) := by omega
        have hbw : b < wr.heap.size := by omega
        have HR := Lib.hid hr
        have HAT : Hid (ckAt l j = if !(keyB (l[j]!).1 && valB (l[j]!).2) then 3 else if decide (0 < j) && !lsS (l[j - 1]!).1 (l[j]!).1 then 7 else 0) := Lib.hid rfl
        clear hr
        generalize l[j]! = x at *
        obtain ⟨xk, xv⟩ := x
        dsimp only at *
        obtain ⟨hs1, hs2⟩ := hsz
        have HBR := Lib.hid hbr
        clear hbr
        cases hk : keyB xk with
        | false =>
          have HKB := Lib.hid hk
          have hat : ckAt l j = 3 := by rw [HAT.out, hk]; rfl
          have HAE := Lib.hid hat
          clear hk hat
          go_wp2_with (first
            | (go_at_call 42; go_loud (refine (Key_any xk _ hs1).mono ?_; rintro e w1 ⟨he1, hb1⟩; rw [HKB.out] at he1; subst he1)))
          go_ret
          exact ⟨by rw [HC.out, ckUp_stop HK.out (by rw [HAE.out]; decide) _ hjn, HAE.out]; rfl, (HBR.out.alloc hzr _).trans (hb1.mono (by simp; omega))⟩
        | true =>
          have HKB := Lib.hid hk
          cases hv : valB xv with
          | false =>
            have HVB := Lib.hid hv
            have hat : ckAt l j = 3 := by rw [HAT.out, hk, hv]; rfl
            have HAE := Lib.hid hat
            clear hk hv hat
            go_wp2_with (first
              | (go_at_call 42; go_loud (refine (Key_any xk _ hs1).mono ?_; rintro e w1 ⟨he1, hb1⟩; rw [HKB.out] at he1; subst he1; obtain ⟨hc1, hf1⟩ := bcell hb1))
              | (go_at_call 43; go_loud (refine (isValue_any xv _ hs2).mono ?_; rintro e w2 ⟨he2, hb2⟩; rw [HVB.out] at he2; subst he2)))
            go_ret
            exact ⟨by rw [HC.out, ckUp_stop HK.out (by rw [HAE.out]; decide) _ hjn, HAE.out]; rfl, ((HBR.out.alloc hzr _).trans ((bstep hb1 hb2).mono (by simp; omega)))⟩
          | true =>
            have HVB := Lib.hid hv
            have HAT2 : Hid (ckAt l j = if decide (0 < j) && !lsS (l[j - 1]!).1 xk then 7 else 0) := Lib.hid (by rw [HAT.out, hk, hv]; rfl)
            clear hk hv HAT
            go_wp2_with (first
              | (go_at_call 42; go_loud (refine (Key_any xk _ hs1).mono ?_; rintro e w1 ⟨he1, hb1⟩; rw [HKB.out] at he1; subst he1; obtain ⟨hc1, hf1⟩ := bcell hb1))
              | (go_at_call 43; go_loud (refine (isValue_any xv _ hs2).mono ?_; rintro e w2 ⟨he2, hb2⟩; rw [HVB.out] at he2; subst he2; have HB12 := Lib.hid (bstep hb1 hb2))))
            have hzw : (wr.alloc (.cells #[.string xk, .string xv] 54)).heap.size = wr.heap.size + 1 := by simp
            have q0 : w2.cell? ⟨wr.heap.size, 0, none⟩ = some (.string xk) := (HB12.out.cell (p := ⟨wr.heap.size, 0, none⟩) (by simp)).trans (cell_of_row _ wr.heap.size 0 _ 54 (0, 0) (heap_alloc_new wr _))
            have HBF := Lib.hid (show Below w.heap.size w w2 from (HBR.out.alloc hzr _).trans (HB12.out.mono (by simp; omega)))
            clear hc1 hf1 hb1 hb2 hzw o0 o1
            by_cases hjp : 0 < j
            · have p0 : w2.cell? ⟨b, off + (j - 1) * 2, none⟩ = some (.string (l[j - 1]!).1) := (HBF.out.cell (p := ⟨b, _, none⟩) hb).trans (HR.out (j - 1) (by omega) 0 _ rfl)
              generalize (l[j - 1]!).1 = pk at *
              have hjd : decide ((0 : Int) < (j : Int)) = true := by simp; omega
              have hw1 : IntKind.i64.wrap ((j : Int) - 1) = (j : Int) - 1 := IntWalk.i64_in _ (by omega)
              have hj1 : (0 : Int) ≤ (j : Int) - 1 := by omega
              have hj2 : (j : Int) - 1 < (l.length : Int) := by omega
              have hj3 : ((j : Int) - 1).toNat = j - 1 := by omega
              cases hlp : lsS pk xk with
              | true =>
                have HAE := Lib.hid (show ckAt l j = 0 by rw [HAT2.out, hlp]; simp)
                have hb1 : Op.bytesLess xk.toList pk.toList = false := lsS_asymm hlp
                have hb2 : (xk.toList == pk.toList) = false := by
                  rw [ba_beq, decide_eq_false_iff_not]
                  intro e
                  subst e
                  rw [lsS_irr] at hlp; cases hlp
                clear hlp
                go_quiet (fail)
                go_wp2
                go_roundw
                case rel => exact ⟨j + 1, by omega, by go_num, Lib.hid (by unfold ckUp; rw [if_pos HK.out]; exact HAE.out), below_drewN HBF.out _⟩
                case measure => simp [intOf]; omega
              | false =>
                have HAE := Lib.hid (show ckAt l j = 7 by rw [HAT2.out, hlp]; simp [hjp])
                have hb12 : (Op.bytesLess xk.toList pk.toList || (xk.toList == pk.toList)) = true := by
                  cases h1 : lsS xk pk with
                  | true =>
                    have h1 : Op.bytesLess xk.toList pk.toList = true := h1
                    rw [h1]; rfl
                  | false =>
                    have := lsS_anti hlp h1
                    subst this
                    simp
                clear hlp
                cases h1 : Op.bytesLess xk.toList pk.toList with
                | true =>
                  clear hb12
                  go_quiet (fail)
                  go_wp2
                  go_ret
                  exact ⟨by rw [HC.out, ckUp_stop HK.out (by rw [HAE.out]; decide) _ hjn, HAE.out]; rfl, below_drewN HBF.out _⟩
                | false =>
                  rw [h1] at hb12
                  have h2 : (xk.toList == pk.toList) = true := by simpa using hb12
                  clear hb12
                  go_quiet (fail)
                  go_wp2
                  go_ret
                  exact ⟨by rw [HC.out, ckUp_stop HK.out (by rw [HAE.out]; decide) _ hjn, HAE.out]; rfl, below_drewN HBF.out _⟩
            · have HAE := Lib.hid (show ckAt l j = 0 by rw [HAT2.out]; simp [hjp])
              have hjd : decide ((0 : Int) < (j : Int)) = false := by simp; omega
              go_quiet (fail)
              go_wp2
              go_roundw
              case rel => exact ⟨j + 1, by omega, by go_num, Lib.hid (by unfold ckUp; rw [if_pos HK.out]; exact HAE.out), below_drewN HBF.out _⟩
              case measure => simp [intOf]; omega
      · obtain rfl : l.length = j := by omega
        have HBR := Lib.hid hbr
        clear hbr
        go_wp2
        go_ret
        exact ⟨by rw [HC.out, HK.out]; rfl, HBR.out⟩
end Go.Proofs.YtjmdebeffpdpcaaGreatDoor
