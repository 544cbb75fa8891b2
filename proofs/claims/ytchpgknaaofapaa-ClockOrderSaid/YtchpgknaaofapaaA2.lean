/- Package clock: Check. -/
import Derived.Test.YtchpgknaaofapaaA1
import Derived.StillTailTactics
import Derived.Deep.RegionHeld3
import Derived.Deep.DeepMust
namespace Go.Proofs.Ytchpgknaaofapaa
open Go.RowKit

/-- What is wrong with event i; 0 if nothing. -/
def evOf (s k m r : Int) : Int :=
  if s < 0 ∨ 8 ≤ s ∨ k < 0 ∨ 2 < k then 4
  else if k = 0 ∧ m ≠ 0 then 3
  else if k = 1 ∧ 0 ≤ r then 7
  else if k = 2 ∧ r < 0 then 21
  else 0
def evE (l : List Ev) (i : Nat) : Int := evOf l[i]!.1 l[i]!.2.1 l[i]!.2.2 (sentI (l.take i) l[i]!.2.2)
def checkFrom (l : List Ev) : Nat → Nat → Int
  | 0, _ => 0
  | k + 1, i => if evE l i = 0 then checkFrom l k (i + 1) else evE l i
def checkE (l : List Ev) : Int := if 200 < l.length then 2 else checkFrom l l.length 0

theorem checkFrom_all {l : List Ev} : ∀ {k i : Nat}, (∀ j, i ≤ j → j < i + k → evE l j = 0) → checkFrom l k i = 0
  | 0, _, _ => rfl
  | k + 1, i, h => by
    rw [checkFrom, if_pos (h i (Nat.le_refl _) (by omega))]
    exact checkFrom_all fun j h1 h2 => h j (by omega) (by omega)
theorem checkFrom_at {l : List Ev} : ∀ {k i m : Nat}, i ≤ m → m < i + k → (∀ j, i ≤ j → j < m → evE l j = 0) → evE l m ≠ 0 → checkFrom l k i = evE l m
  | 0, _, _, h1, h2, _, _ => by omega
  | k + 1, i, m, h1, h2, h, hm => by
    rw [checkFrom]
    by_cases e : i = m
    · subst e; rw [if_neg hm]
    · rw [if_pos (h i (Nat.le_refl _) (by omega))]
      exact checkFrom_at (by omega) (by omega) (fun j h3 h4 => h j (by omega) h4) hm
theorem checkFrom_inv {l : List Ev} : ∀ {k i : Nat}, checkFrom l k i = 0 → ∀ j, i ≤ j → j < i + k → evE l j = 0
  | 0, _, _, _, h1, h2 => by omega
  | k + 1, i, h, j, h1, h2 => by
    rw [checkFrom] at h
    by_cases e : evE l i = 0
    · rw [if_pos e] at h
      by_cases e2 : i = j
      · subst e2; exact e
      · exact checkFrom_inv h j (by omega) (by omega)
    · rw [if_neg e] at h; exact absurd h e

theorem hid_step {P : Nat → Prop} {j : Nat} (h : Hid (∀ i, i < j → P i)) (hj : P j) : Hid (∀ i, i < j + 1 → P i) :=
  Lib.hid fun i hi => by
    by_cases e : i = j
    · subst e; exact hj
    · exact h.out i (by omega)

set_option maxRecDepth 100000 in
set_option maxHeartbeats 4000000 in
theorem Check_any (A : Option Addr) (c : Nat) (l : List Ev) (n : Nat) (hln : l.length = n) (w : World) (hA : EvsAt w w.heap.size A l) (hn : n ≤ c) (_hc : c ≤ maxLen) :
    Calls Try.prog 20 #[.slice A n c] w fun e w' => e = .returned (.int .i64 (checkE l)) ∧ Below w.heap.size w w' := by
  have HA := Lib.hid hA
  have HL := Lib.hid hln
  clear hA hln
  by_cases h200 : 200 < n
  · go_enter Try.func20, Try.ntmps20
    go_wp2
    go_ret
    exact ⟨ret_int (by unfold checkE; rw [HL.out, if_pos h200]), Below.refl _ _⟩
  · go_enter Try.func20, Try.ntmps20
    go_wp2
    go_loopw [10] (fun k wr => ∃ j : Nat, j ≤ n ∧ k = .int .i64 j ∧ Hid (∀ i, i < j → evE l i = 0) ∧ Below w.heap.size w wr) (fun k _ => n - (intOf k).toNat)
    case atStart => exact ⟨0, by omega, rfl, Lib.hid (fun i hi => absurd hi (by omega)), Below.refl _ _⟩
    case round =>
      obtain ⟨j, hj, rfl, HE, hbel⟩ := hrel
      by_cases hlt : j < n
      · have hgood : evE l j ≠ 0 → checkE l = evE l j := fun h => by
          have := HL.out
          unfold checkE
          rw [if_neg (by omega)]
          exact checkFrom_at (by omega) (by omega) (fun i _ hi => HE.out i hi) h
        have HG := Lib.hid hgood
        clear hgood
        have hA' := HA.out
        have hl := HL.out
        obtain ⟨b, off, rfl, hb, hr⟩ := hA' (by omega)
        have hrow := hr j (by omega)
        have o0 : wr.cell? ⟨b, off + j * 3, none⟩ = some (.int .i64 l[j]!.1) := (hbel.cell (p := ⟨b, off + j * 3, none⟩) hb).trans (hrow 0 _ rfl)
        have o1 : wr.cell? ⟨b, off + j * 3 + 1, none⟩ = some (.int .i64 l[j]!.2.1) := (hbel.cell (p := ⟨b, off + j * 3 + 1, none⟩) hb).trans (hrow 1 _ rfl)
        have o2 : wr.cell? ⟨b, off + j * 3 + 2, none⟩ = some (.int .i64 l[j]!.2.2) := (hbel.cell (p := ⟨b, off + j * 3 + 2, none⟩) hb).trans (hrow 2 _ rfl)
        have hev : evE l j = evOf l[j]!.1 l[j]!.2.1 l[j]!.2.2 (sentI (l.take j) l[j]!.2.2) := rfl
        have hB : b < wr.heap.size := Nat.lt_of_lt_of_le hb hbel.size
        have hA2 : EvsAt wr wr.heap.size (some ⟨b, off, none⟩) (l.take j) := evs_take ((HA.out.below hbel).more hbel.size) j
        have hlen : (l.take j).length = j := by rw [List.length_take]; omega
        generalize l[j]! = x at *
        obtain ⟨s, k, m⟩ := x
        have hsent := fun (W : World) (hw : Below wr.heap.size wr W) => sent_any (some ⟨b, off, none⟩) c (l.take j) j hlen m W ((hA2.below hw).more hw.size) (by unfold maxLen; omega)
        have HS := Lib.hid hsent
        have HV := Lib.hid hev
        clear hsent hev hrow hr hA' hA2 hlen hl
        by_cases c1 : s < 0
        · go_wp2
          go_ret
          exact ⟨ret_int (by have h := HG.out; rw [HV.out] at h; rw [h (by unfold evOf; rw [if_pos (by omega)]; decide)]; unfold evOf; rw [if_pos (by omega)]), hbel.alloc hbel.size _⟩
        by_cases c2 : 8 ≤ s
        · go_wp2
          go_ret
          exact ⟨ret_int (by have h := HG.out; rw [HV.out] at h; rw [h (by unfold evOf; rw [if_pos (by omega)]; decide)]; unfold evOf; rw [if_pos (by omega)]), hbel.alloc hbel.size _⟩
        by_cases c3 : k < 0
        · go_wp2
          go_ret
          exact ⟨ret_int (by have h := HG.out; rw [HV.out] at h; rw [h (by unfold evOf; rw [if_pos (by omega)]; decide)]; unfold evOf; rw [if_pos (by omega)]), hbel.alloc hbel.size _⟩
        by_cases c4 : 2 < k
        · go_wp2
          go_ret
          exact ⟨ret_int (by have h := HG.out; rw [HV.out] at h; rw [h (by unfold evOf; rw [if_pos (by omega)]; decide)]; unfold evOf; rw [if_pos (by omega)]), hbel.alloc hbel.size _⟩
        have hk : k = 0 ∨ k = 1 ∨ k = 2 := by omega
        rcases hk with rfl | rfl | rfl
        · by_cases c5 : m = 0
          · have c5' : (m != 0) = false := by simp [c5]
            have c5 := Lib.hid c5
            go_wp2
            go_quiet (fail)
            go_wp2
            go_quiet (fail)
            go_wp2
            go_roundw
            case rel => exact ⟨j + 1, by omega, by go_num, hid_step HE (by rw [HV.out]; unfold evOf; rw [if_neg (by omega), if_neg (by have := c5.out; omega), if_neg (by omega), if_neg (by omega)]), below_drewN (hbel.alloc hbel.size _) _⟩
            case measure => simp [intOf]; omega
          · have c5' : (m != 0) = true := by simp [c5]
            go_wp2
            go_ret
            exact ⟨ret_int (by have h := HG.out; rw [HV.out] at h; rw [h (by unfold evOf; rw [if_neg (by omega), if_pos ⟨rfl, c5⟩]; decide)]; unfold evOf; rw [if_neg (by omega), if_pos ⟨rfl, c5⟩]), hbel.alloc hbel.size _⟩
        · generalize hr : sentI (l.take j) m = r at *
          have HR := Lib.hid hr
          clear hr
          have hj0 : (0 : Int) ≤ (j : Int) := by omega
          have hjc : (j : Int) ≤ (c : Int) := by omega
          by_cases c5 : 0 ≤ r
          · go_wp2
            go_region_held3 (fun W => W.cell? ⟨wr.heap.size, 1, none⟩ = some (.int .i64 1) ∧ W.cell? ⟨wr.heap.size, 2, none⟩ = some (.int .i64 m)) (first | go_keep | (refine ⟨?_, ?_⟩ <;> simp)) ((go_at_call 22; refine (HS.out _ (by exact ((Below.refl _ _).alloc (Nat.le_refl _) _).drew)).mono ?_; rintro e w1 ⟨rfl, hb1⟩; obtain ⟨hc1, hf1⟩ := bcell hb1))
            go_wp2
            go_ret
            exact ⟨ret_int (by have h := HG.out; rw [HV.out] at h; rw [h (by unfold evOf; rw [if_neg (by omega), if_neg (by omega), if_pos ⟨rfl, c5⟩]; decide)]; unfold evOf; rw [if_neg (by omega), if_neg (by omega), if_pos ⟨rfl, c5⟩]), (hbel.alloc hbel.size _).drew.trans (hb1.mono (by simp; exact Nat.le_trans hbel.size (by simp)))⟩
          · go_wp2
            go_region_held3 (fun W => W.cell? ⟨wr.heap.size, 1, none⟩ = some (.int .i64 1) ∧ W.cell? ⟨wr.heap.size, 2, none⟩ = some (.int .i64 m)) (first | go_keep | (refine ⟨?_, ?_⟩ <;> simp)) ((go_at_call 22; refine (HS.out _ (by exact ((Below.refl _ _).alloc (Nat.le_refl _) _).drew)).mono ?_; rintro e w1 ⟨rfl, hb1⟩; obtain ⟨hc1, hf1⟩ := bcell hb1))
            go_wp2
            go_quiet (fail)
            go_wp2
            go_roundw
            case rel => exact ⟨j + 1, by omega, by go_num, hid_step HE (by rw [HV.out]; unfold evOf; rw [if_neg (by omega), if_neg (by omega), if_neg (by omega), if_neg (by omega)]), below_drewN ((hbel.alloc hbel.size _).drew.trans (hb1.mono (by simp; exact Nat.le_trans hbel.size (by simp)))) _⟩
            case measure => simp [intOf]; omega
        · generalize hr : sentI (l.take j) m = r at *
          have HR := Lib.hid hr
          clear hr
          have hj0 : (0 : Int) ≤ (j : Int) := by omega
          have hjc : (j : Int) ≤ (c : Int) := by omega
          by_cases c5 : r < 0
          · go_wp2
            go_quiet (fail)
            go_wp2
            go_region_held3 (fun W => W.cell? ⟨wr.heap.size, 1, none⟩ = some (.int .i64 2) ∧ W.cell? ⟨wr.heap.size, 2, none⟩ = some (.int .i64 m)) (first | go_keep | (refine ⟨?_, ?_⟩ <;> simp)) ((go_at_call 22; refine (HS.out _ (by exact (below_drewN ((Below.refl _ _).alloc (Nat.le_refl _) _) _).drew)).mono ?_; rintro e w1 ⟨rfl, hb1⟩; obtain ⟨hc1, hf1⟩ := bcell hb1))
            go_wp2
            go_ret
            exact ⟨ret_int (by have h := HG.out; rw [HV.out] at h; rw [h (by unfold evOf; rw [if_neg (by omega), if_neg (by omega), if_neg (by omega), if_pos ⟨rfl, c5⟩]; decide)]; unfold evOf; rw [if_neg (by omega), if_neg (by omega), if_neg (by omega), if_pos ⟨rfl, c5⟩]), (below_drewN (hbel.alloc hbel.size _) _).drew.trans (hb1.mono (by simp; exact Nat.le_trans hbel.size (by simp)))⟩
          · go_wp2
            go_quiet (fail)
            go_wp2
            go_region_held3 (fun W => W.cell? ⟨wr.heap.size, 1, none⟩ = some (.int .i64 2) ∧ W.cell? ⟨wr.heap.size, 2, none⟩ = some (.int .i64 m)) (first | go_keep | (refine ⟨?_, ?_⟩ <;> simp)) ((go_at_call 22; refine (HS.out _ (by exact (below_drewN ((Below.refl _ _).alloc (Nat.le_refl _) _) _).drew)).mono ?_; rintro e w1 ⟨rfl, hb1⟩; obtain ⟨hc1, hf1⟩ := bcell hb1))
            go_wp2
            go_roundw
            case rel => exact ⟨j + 1, by omega, by go_num, hid_step HE (by rw [HV.out]; unfold evOf; rw [if_neg (by omega), if_neg (by omega), if_neg (by omega), if_neg (by omega)]), ((below_drewN (hbel.alloc hbel.size _) _).drew.trans (hb1.mono (by simp; exact Nat.le_trans hbel.size (by simp))))⟩
            case measure => simp [intOf]; omega
      · obtain rfl : n = j := by omega
        go_wp2
        go_ret
        refine ⟨ret_int ?_, hbel⟩
        unfold checkE
        have := HL.out
        rw [if_neg (by omega)]
        exact (checkFrom_all fun i _ hi => HE.out i (by omega)).symm
end Go.Proofs.Ytchpgknaaofapaa
