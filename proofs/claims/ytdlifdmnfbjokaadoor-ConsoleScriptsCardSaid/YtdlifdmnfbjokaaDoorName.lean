/- chart.Name. -/
import Derived.Test.YtdlifdmnfbjokaaDoorMem
import Derived.Lib.ConvBytes
import Derived.Deep.QuietTactic
import Derived.Handy
namespace Go.Proofs.YtdlifdmnfbjokaaDoor
open Go.RowKit

theorem below_bytes (w : World) (e : TypeId) (s : ByteArray) : Below w.heap.size w (Lib.bytesWorld w e s) :=
  ⟨rfl, rfl, rfl, by rw [Lib.bytesWorld_size]; omega, fun k hk => Lib.bytesWorld_at_old w e s k hk⟩

/-- Does letter c stand at place i of a name? -/
def letB (i c : Nat) : Bool := (decide (65 ≤ c) && decide (c ≤ 90)) || (decide (0 < i) && decide (48 ≤ c) && decide (c ≤ 57))
def nameB (s : ByteArray) : Bool := decide (1 ≤ s.size) && decide (s.size ≤ 8) && (List.range s.size).all fun i => letB i (s.data.toList.getD i 0).toNat

set_option maxRecDepth 100000 in
set_option maxHeartbeats 2000000 in
theorem Name_any (s : ByteArray) (w : World) (hs : s.size ≤ maxLen) : Calls Tryd.prog 16 #[.string s] w fun e w' => e = .returned (.bool (nameB s)) ∧ Below w.heap.size w w' := by
  unfold maxLen at hs
  by_cases h1 : s.size < 1
  · have HB : Hid (nameB s = false) := Lib.hid (by unfold nameB; simp; omega)
    go_enter Tryd.func16, Tryd.ntmps16
    go_wp2
    go_ret
    exact ⟨by rw [HB.out]; rfl, Below.refl _ _⟩
  by_cases h8 : 8 < s.size
  · have HB : Hid (nameB s = false) := Lib.hid (by unfold nameB; simp; omega)
    go_enter Tryd.func16, Tryd.ntmps16
    go_wp2
    go_ret
    exact ⟨by rw [HB.out]; rfl, Below.refl _ _⟩
  have hk := fun (W : World) => Lib.run_convert_string_bytes (P := Tryd.prog) W 9 51 5 s Tryd.underlying9 Tryd.underlying51 Tryd.underlying5
  have HC := Lib.hid (fun (i : Nat) (hi : i < s.size) => Lib.bytesWorld_cell w 5 s i hi)
  go_enter Tryd.func16, Tryd.ntmps16
  go_wp2
  go_loop [16] (fun k => ∃ j : Nat, j ≤ s.size ∧ k = .int .i64 j ∧ Hid (∀ i, i < j → letB i (s.data.toList.getD i 0).toNat = true)) (fun k => s.size - (intOf k).toNat)
  case atStart => exact ⟨0, by omega, rfl, Lib.hid (fun i hi => absurd hi (by omega))⟩
  case round =>
    obtain ⟨j, hj, rfl, HL⟩ := hrel
    by_cases hlt : j < s.size
    · have hcell := HC.out j hlt
      have hcb := UInt8.toNat_lt (s.data.toList.getD j 0)
      have HD : Hid (∀ b, letB j (s.data.toList.getD j 0).toNat = b → letB j (s.data.toList.getD j 0).toNat = b) := Lib.hid (fun _ h => h)
      generalize hc : (s.data.toList.getD j 0).toNat = c at *
      have hcc := Lib.hid hc
      clear hc
      have hj0 : (0 : Int) ≤ (j : Int) := by omega
      have hjn : (j : Int) < (s.size : Int) := by omega
      by_cases ok : letB j c = true
      · have hgo : ∀ (_ : True), j + 1 ≤ s.size ∧ Hid (∀ i, i < j + 1 → letB i (s.data.toList.getD i 0).toNat = true) := fun _ => ⟨by omega, Lib.hid fun i hi => by
          by_cases e : i = j
          · subst e; rw [hcc.out]; exact ok
          · exact HL.out i (by omega)⟩
        obtain ⟨g1, g2⟩ := hgo trivial
        unfold letB at ok
        by_cases c1 : 65 ≤ c ∧ c ≤ 90
        · obtain ⟨a1, a2⟩ := c1
          have b1 : decide ((65 : Int) ≤ (c : Int)) = true := by simp; omega
          have b2 : decide ((c : Int) ≤ 90) = true := by simp; omega
          clear ok
          go_wp2
          go_round
          case rel => exact ⟨j + 1, g1, by go_num, g2⟩
          case measure => simp [intOf]; omega
        · have c2 : 0 < j ∧ 48 ≤ c ∧ c ≤ 57 := by simp at ok; omega
          obtain ⟨a0, a1, a2⟩ := c2
          have b1 : decide ((65 : Int) ≤ (c : Int)) = false := by simp; omega
          have b3 : decide ((48 : Int) ≤ (c : Int)) = true := by simp; omega
          have b4 : decide ((c : Int) ≤ 57) = true := by simp; omega
          have b5 : decide ((0 : Int) < (j : Int)) = true := by simp; omega
          clear ok c1
          go_wp2
          go_round
          case rel => exact ⟨j + 1, g1, by go_num, g2⟩
          case measure => simp [intOf]; omega
      · have hfin : nameB s = false := by
          rw [Bool.eq_false_iff]
          intro h
          unfold nameB at h
          simp only [Bool.and_eq_true, List.all_eq_true, List.mem_range] at h
          have := h.2 j hlt
          rw [hcc.out] at this
          exact ok this
        have HF := Lib.hid hfin
        have ok' : ¬ (65 ≤ c ∧ c ≤ 90) ∧ ¬ (0 < j ∧ 48 ≤ c ∧ c ≤ 57) := by
          unfold letB at ok
          simp at ok
          omega
        obtain ⟨c1, c2⟩ := ok'
        clear ok hfin
        by_cases a1 : 65 ≤ c
        · have b1 : decide ((65 : Int) ≤ (c : Int)) = true := by simp; omega
          have b2 : decide ((c : Int) ≤ 90) = false := by simp; omega
          have b4 : decide ((c : Int) ≤ 57) = false := by simp; omega
          clear c1 c2
          go_wp2
          all_goals (go_ret; exact ⟨by rw [HF.out]; rfl, below_bytes w 5 _⟩)
        · have b1 : decide ((65 : Int) ≤ (c : Int)) = false := by simp; omega
          by_cases a2 : 0 < j
          · have b5 : decide ((0 : Int) < (j : Int)) = true := by simp; omega
            by_cases a3 : 48 ≤ c
            · have b3 : decide ((48 : Int) ≤ (c : Int)) = true := by simp; omega
              have b4 : decide ((c : Int) ≤ 57) = false := by simp; omega
              clear c1 c2
              go_wp2
              all_goals (go_ret; exact ⟨by rw [HF.out]; rfl, below_bytes w 5 _⟩)
            · have b3 : decide ((48 : Int) ≤ (c : Int)) = false := by simp; omega
              clear c1 c2
              go_wp2
              all_goals (go_ret; exact ⟨by rw [HF.out]; rfl, below_bytes w 5 _⟩)
          · have b5 : decide ((0 : Int) < (j : Int)) = false := by simp; omega
            clear c1 c2
            go_wp2
            all_goals (go_ret; exact ⟨by rw [HF.out]; rfl, below_bytes w 5 _⟩)
    · obtain rfl : j = s.size := by omega
      have hfin : nameB s = true := by
        unfold nameB
        simp only [Bool.and_eq_true, List.all_eq_true, List.mem_range, decide_eq_true_eq]
        exact ⟨⟨by omega, by omega⟩, fun i hi => HL.out i hi⟩
      have HF := Lib.hid hfin
      clear hfin
      go_wp2
      go_ret
      exact ⟨by rw [HF.out]; rfl, below_bytes w 5 _⟩
end Go.Proofs.YtdlifdmnfbjokaaDoor
