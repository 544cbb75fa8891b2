/- Package snapshot: Key, isValue. -/
import Derived.Test.YtjmdebeffpdpcaaGreatDoorMem
import Derived.Lib.ConvBytes
import Derived.Deep.QuietTactic
import Derived.Handy
namespace Go.Proofs.YtjmdebeffpdpcaaGreatDoor
open Go.RowKit

theorem below_bytes (w : World) (e : TypeId) (s : ByteArray) : Below w.heap.size w (Lib.bytesWorld w e s) :=
  ⟨rfl, rfl, rfl, by rw [Lib.bytesWorld_size]; omega, fun k hk => Lib.bytesWorld_at_old w e s k hk⟩

def keyC (c : Nat) : Bool := (decide (97 ≤ c) && decide (c ≤ 122)) || (decide (48 ≤ c) && decide (c ≤ 57)) || decide (c = 46)
def valC (c : Nat) : Bool := decide (32 ≤ c) && decide (c ≤ 126)
def keyB (s : ByteArray) : Bool := decide (1 ≤ s.size) && decide (s.size ≤ 12) && (List.range s.size).all fun i => keyC (s.data.toList.getD i 0).toNat
def valB (s : ByteArray) : Bool := decide (s.size ≤ 40) && (List.range s.size).all fun i => valC (s.data.toList.getD i 0).toNat

set_option maxRecDepth 100000 in
set_option maxHeartbeats 2000000 in
theorem Key_any (s : ByteArray) (w : World) (hs : s.size ≤ maxLen) : Calls Tryz.prog 42 #[.string s] w fun e w' => e = .returned (.bool (keyB s)) ∧ Below w.heap.size w w' := by
  unfold maxLen at hs
  have hk := fun (W : World) => Lib.run_convert_string_bytes (P := Tryz.prog) W 9 69 5 s Tryz.underlying9 Tryz.underlying69 Tryz.underlying5
  have HC := Lib.hid (fun (i : Nat) (hi : i < s.size) => Lib.bytesWorld_cell w 5 s i hi)
  go_enter Tryz.func42, Tryz.ntmps42
  go_wp2
  go_loop [8] (fun k => ∃ j : Nat, j ≤ s.size ∧ k = .int .i64 j ∧ Hid (∀ i, i < j → keyC (s.data.toList.getD i 0).toNat = true)) (fun k => s.size - (intOf k).toNat)
  case atStart => exact ⟨0, by omega, rfl, Lib.hid (fun i hi => absurd hi (by omega))⟩
  case round =>
    obtain ⟨j, hj, rfl, HL⟩ := hrel
    by_cases hlt : j < s.size
    · have hcell := HC.out j hlt
      have hcb := UInt8.toNat_lt (s.data.toList.getD j 0)
      generalize hc : (s.data.toList.getD j 0).toNat = c at *
      have hcc := Lib.hid hc
      clear hc
      have hj0 : (0 : Int) ≤ (j : Int) := by omega
      have hjn : (j : Int) < (s.size : Int) := by omega
      by_cases ok : keyC c = true
      · have hgo : ∀ (_ : True), j + 1 ≤ s.size ∧ Hid (∀ i, i < j + 1 → keyC (s.data.toList.getD i 0).toNat = true) := fun _ => ⟨by omega, Lib.hid fun i hi => by
          by_cases e : i = j
          · subst e; rw [hcc.out]; exact ok
          · exact HL.out i (by omega)⟩
        obtain ⟨g1, g2⟩ := hgo trivial
        unfold keyC at ok
        by_cases c1 : 97 ≤ c ∧ c ≤ 122
        · obtain ⟨a1, a2⟩ := c1
          have b1 : decide ((97 : Int) ≤ (c : Int)) = true := by simp; omega
          have b2 : decide ((c : Int) ≤ 122) = true := by simp; omega
          clear ok
          go_wp2
          go_round
          case rel => exact ⟨j + 1, g1, by go_num, g2⟩
          case measure => simp [intOf]; omega
        · by_cases c2 : 48 ≤ c ∧ c ≤ 57
          · obtain ⟨a1, a2⟩ := c2
            have b1 : decide ((97 : Int) ≤ (c : Int)) = false := by simp; omega
            have b3 : decide ((48 : Int) ≤ (c : Int)) = true := by simp; omega
            have b4 : decide ((c : Int) ≤ 57) = true := by simp; omega
            clear ok c1
            go_wp2
            go_round
            case rel => exact ⟨j + 1, g1, by go_num, g2⟩
            case measure => simp [intOf]; omega
          · obtain rfl : c = 46 := by simp at ok; omega
            clear ok c1 c2
            go_wp2
            go_round
            case rel => exact ⟨j + 1, g1, by go_num, g2⟩
            case measure => simp [intOf]; omega
      · have hfin : keyB s = false := by
          rw [Bool.eq_false_iff]
          intro h
          unfold keyB at h
          simp only [Bool.and_eq_true, List.all_eq_true, List.mem_range] at h
          have := h.2 j hlt
          rw [hcc.out] at this
          exact ok this
        have HF := Lib.hid hfin
        have ok' : ¬ (97 ≤ c ∧ c ≤ 122) ∧ ¬ (48 ≤ c ∧ c ≤ 57) ∧ c ≠ 46 := by
          unfold keyC at ok
          simp at ok
          omega
        obtain ⟨c1, c2, c3⟩ := ok'
        have b5 : ((c : Int) == 46) = false := by rw [beq_eq_false_iff_ne]; omega
        clear ok hfin
        by_cases a1 : 97 ≤ c
        · have b1 : decide ((97 : Int) ≤ (c : Int)) = true := by simp; omega
          have b2 : decide ((c : Int) ≤ 122) = false := by simp; omega
          have b3 : decide ((48 : Int) ≤ (c : Int)) = true := by simp; omega
          have b4 : decide ((c : Int) ≤ 57) = false := by simp; omega
          clear c1 c2 c3
          go_wp2
          all_goals (go_ret; exact ⟨by rw [HF.out]; rfl, below_bytes w 5 _⟩)
        · have b1 : decide ((97 : Int) ≤ (c : Int)) = false := by simp; omega
          by_cases a2 : 48 ≤ c
          · have b3 : decide ((48 : Int) ≤ (c : Int)) = true := by simp; omega
            have b4 : decide ((c : Int) ≤ 57) = false := by simp; omega
            clear c1 c2 c3
            go_wp2
            all_goals (go_ret; exact ⟨by rw [HF.out]; rfl, below_bytes w 5 _⟩)
          · have b3 : decide ((48 : Int) ≤ (c : Int)) = false := by simp; omega
            clear c1 c2 c3
            go_wp2
            all_goals (go_ret; exact ⟨by rw [HF.out]; rfl, below_bytes w 5 _⟩)
    · obtain rfl : j = s.size := by omega
      by_cases h1 : 1 ≤ s.size
      · have d1 : decide ((1 : Int) ≤ (s.size : Int)) = true := by simp; omega
        by_cases h12 : s.size ≤ 12
        · have d2 : decide ((s.size : Int) ≤ 12) = true := by simp; omega
          have HF := Lib.hid (show keyB s = true by
            unfold keyB
            simp only [Bool.and_eq_true, List.all_eq_true, List.mem_range, decide_eq_true_eq]
            exact ⟨⟨h1, h12⟩, fun i hi => HL.out i hi⟩)
          go_wp2
          go_ret
          exact ⟨by rw [HF.out]; rfl, below_bytes w 5 _⟩
        · have d2 : decide ((s.size : Int) ≤ 12) = false := by simp; omega
          have HF := Lib.hid (show keyB s = false by unfold keyB; simp [h12])
          go_wp2
          go_ret
          exact ⟨by rw [HF.out]; rfl, below_bytes w 5 _⟩
      · have d1 : decide ((1 : Int) ≤ (s.size : Int)) = false := by simp; omega
        have HF := Lib.hid (show keyB s = false by unfold keyB; simp [h1])
        go_wp2
        go_ret
        exact ⟨by rw [HF.out]; rfl, below_bytes w 5 _⟩

set_option maxRecDepth 100000 in
set_option maxHeartbeats 2000000 in
theorem isValue_any (s : ByteArray) (w : World) (hs : s.size ≤ maxLen) : Calls Tryz.prog 43 #[.string s] w fun e w' => e = .returned (.bool (valB s)) ∧ Below w.heap.size w w' := by
  unfold maxLen at hs
  have hk := fun (W : World) => Lib.run_convert_string_bytes (P := Tryz.prog) W 9 69 5 s Tryz.underlying9 Tryz.underlying69 Tryz.underlying5
  have HC := Lib.hid (fun (i : Nat) (hi : i < s.size) => Lib.bytesWorld_cell w 5 s i hi)
  go_enter Tryz.func43, Tryz.ntmps43
  go_wp2
  go_loop [8] (fun k => ∃ j : Nat, j ≤ s.size ∧ k = .int .i64 j ∧ Hid (∀ i, i < j → valC (s.data.toList.getD i 0).toNat = true)) (fun k => s.size - (intOf k).toNat)
  case atStart => exact ⟨0, by omega, rfl, Lib.hid (fun i hi => absurd hi (by omega))⟩
  case round =>
    obtain ⟨j, hj, rfl, HL⟩ := hrel
    by_cases hlt : j < s.size
    · have hcell := HC.out j hlt
      have hcb := UInt8.toNat_lt (s.data.toList.getD j 0)
      generalize hc : (s.data.toList.getD j 0).toNat = c at *
      have hcc := Lib.hid hc
      clear hc
      have hj0 : (0 : Int) ≤ (j : Int) := by omega
      have hjn : (j : Int) < (s.size : Int) := by omega
      by_cases ok : valC c = true
      · have hgo : ∀ (_ : True), j + 1 ≤ s.size ∧ Hid (∀ i, i < j + 1 → valC (s.data.toList.getD i 0).toNat = true) := fun _ => ⟨by omega, Lib.hid fun i hi => by
          by_cases e : i = j
          · subst e; rw [hcc.out]; exact ok
          · exact HL.out i (by omega)⟩
        obtain ⟨g1, g2⟩ := hgo trivial
        have c1 : 32 ≤ c ∧ c ≤ 126 := by unfold valC at ok; simp at ok; omega
        obtain ⟨a1, a2⟩ := c1
        have b1 : decide ((c : Int) < 32) = false := by simp; omega
        have b2 : decide ((126 : Int) < (c : Int)) = false := by simp; omega
        clear ok
        go_wp2
        go_round
        case rel => exact ⟨j + 1, g1, by go_num, g2⟩
        case measure => simp [intOf]; omega
      · have HF := Lib.hid (show valB s = false by
          rw [Bool.eq_false_iff]
          intro h
          unfold valB at h
          simp only [Bool.and_eq_true, List.all_eq_true, List.mem_range] at h
          have := h.2 j hlt
          rw [hcc.out] at this
          exact ok this)
        have ok' : c < 32 ∨ 126 < c := by
          unfold valC at ok
          simp at ok
          omega
        clear ok
        by_cases a1 : c < 32
        · have b1 : decide ((c : Int) < 32) = true := by simp; omega
          clear ok'
          go_wp2
          all_goals (go_ret; exact ⟨by rw [HF.out]; rfl, below_bytes w 5 _⟩)
        · have b1 : decide ((c : Int) < 32) = false := by simp; omega
          have b2 : decide ((126 : Int) < (c : Int)) = true := by simp; omega
          clear ok'
          go_wp2
          all_goals (go_ret; exact ⟨by rw [HF.out]; rfl, below_bytes w 5 _⟩)
    · obtain rfl : j = s.size := by omega
      by_cases h12 : s.size ≤ 40
      · have d2 : decide ((s.size : Int) ≤ 40) = true := by simp; omega
        have HF := Lib.hid (show valB s = true by
          unfold valB
          simp only [Bool.and_eq_true, List.all_eq_true, List.mem_range, decide_eq_true_eq]
          exact ⟨h12, fun i hi => HL.out i hi⟩)
        go_wp2
        go_ret
        exact ⟨by rw [HF.out]; rfl, below_bytes w 5 _⟩
      · have d2 : decide ((s.size : Int) ≤ 40) = false := by simp; omega
        have HF := Lib.hid (show valB s = false by unfold valB; simp [h12])
        go_wp2
        go_ret
        exact ⟨by rw [HF.out]; rfl, below_bytes w 5 _⟩
end Go.Proofs.YtjmdebeffpdpcaaGreatDoor
