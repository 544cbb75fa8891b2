/- Package replay: counter. -/
import Derived.Test.YtbbklfjgojjlhaaDoorRA3
import Derived.Lib.AtoiAllCases
import Derived.Lib.ItoaLen
namespace Go.Proofs.YtbbklfjgojjlhaaDoor
open Go.RowKit
open Go.Lib hiding intOf

/-- The number that a counter's text says. -/
def numC (s : ByteArray) : Option Int := match atoiAll (bl s) with
  | .ok v => if -1000000000 ≤ v ∧ v ≤ 1000000000 ∧ mk (itoa v) = s then some v else none
  | _ => none

theorem numC_some {s : ByteArray} {v : Int} (h : numC s = some v) : -1000000000 ≤ v ∧ v ≤ 1000000000 ∧ mk (itoa v) = s := by
  unfold numC at h
  split at h
  · split at h
    · cases h; assumption
    · cases h
  · cases h

theorem itoa_size (v : Int) (h0 : -9223372036854775808 ≤ v) (h1 : v ≤ 9223372036854775807) : (mk (itoa v)).size ≤ 21 := by
  rw [size_mk]; exact itoa_length_le v h0 h1

def CounterP (s : ByteArray) (w : World) (e : Ending) (w' : World) : Prop :=
  (∃ n, e = .returned (.tuple #[.int .i64 n, .bool (numC s).isSome]) ∧ ∀ v, numC s = some v → n = v) ∧ Below w.heap.size w w'

set_option maxRecDepth 100000 in
set_option maxHeartbeats 1000000 in
theorem counter_any (s : ByteArray) (w : World) (hs : s.size ≤ 1000) (he : Env w) : Calls Tryd.prog 34 #[.string s] w (CounterP s w) := by
  have HA := Atoi_all s w hs he
  have HI := Lib.hid (fun v h0 h1 W hW => Itoa_any v W h0 h1 (he.below hW))
  rcases h : atoiAll (bl s) with v | _ | _
  · rw [h] at HA
    simp only at HA
    have hbd := atoiAll_bounds h
    by_cases h1 : -1000000000 ≤ v ∧ v ≤ 1000000000
    · have hn : numC s = if mk (itoa v) = s then some v else none := by
        unfold numC; rw [h]; simp [h1]
      have HN := Lib.hid hn
      have HH := Lib.hid HA
      have b1 : decide ((-1000000000 : Int) ≤ v) = true := by simp [h1.1]
      have b2 : decide (v ≤ (1000000000 : Int)) = true := by simp [h1.2]
      have hi := fun W hW => HI.out v hbd.1 hbd.2 W hW
      have HI2 := Lib.hid hi
      obtain ⟨T, hT⟩ : ∃ T, mk (itoa v) = T := ⟨_, rfl⟩
      rw [hT] at HN HI2
      obtain ⟨q, hq⟩ : ∃ q, (T.toList == s.toList) = q := ⟨_, rfl⟩
      have hfin : (numC s).isSome = q ∧ ∀ u, numC s = some u → v = u := by
        rw [HN.out, ← hq, ba_beqR]
        by_cases e : T = s
        · rw [if_pos e, e]; simp
        · rw [if_neg e]
          have : (bl T == bl s) = false := by rw [beq_eq_false_iff_ne]; exact fun hh => e (bl_inj hh)
          rw [this]; simp
      have HF := Lib.hid hfin
      clear HA h h1 hn hbd hi HI HN hfin hT
      go_enter Tryd.func34, Tryd.ntmps34
      go_wp2_with (first
        | (go_at_call 47; refine HH.out.mono ?_; rintro e w1 ⟨rfl, hb1⟩)
        | (go_at_call 35; refine (HI2.out _ hb1).mono ?_; rintro e w2 ⟨rfl, hb2⟩))
      go_ret2
      exact ⟨⟨v, by rw [HF.out.1, ← hq]; rfl, HF.out.2⟩, bstep hb1 hb2⟩
    · have hn : numC s = none := by
        unfold numC; rw [h]; simp only; rw [if_neg (fun hh => h1 ⟨hh.1, hh.2.1⟩)]
      have HN := Lib.hid hn
      have HH := Lib.hid HA
      have ht : (¬ -1000000000 ≤ v) ∨ (-1000000000 ≤ v ∧ ¬ v ≤ 1000000000) := by omega
      clear HA h h1 hn hbd HI
      rcases ht with h1 | ⟨h1, h2⟩
      · have b1 : decide ((-1000000000 : Int) ≤ v) = false := by simp; omega
        clear h1
        go_enter Tryd.func34, Tryd.ntmps34
        go_wp2_with (first
          | (go_at_call 47; refine HH.out.mono ?_; rintro e w1 ⟨rfl, hb1⟩))
        go_ret2
        exact ⟨⟨v, by rw [HN.out]; rfl, by rw [HN.out]; simp⟩, hb1⟩
      · have b1 : decide ((-1000000000 : Int) ≤ v) = true := by simp; omega
        have b2 : decide (v ≤ (1000000000 : Int)) = false := by simp; omega
        clear h1 h2
        go_enter Tryd.func34, Tryd.ntmps34
        go_wp2_with (first
          | (go_at_call 47; refine HH.out.mono ?_; rintro e w1 ⟨rfl, hb1⟩))
        go_ret2
        exact ⟨⟨v, by rw [HN.out]; rfl, by rw [HN.out]; simp⟩, hb1⟩
  · have hn : numC s = none := by unfold numC; rw [h]
    rw [h] at HA
    simp only at HA
    have HN := Lib.hid hn
    have HH := Lib.hid HA
    clear HA h hn HI
    go_enter Tryd.func34, Tryd.ntmps34
    go_wp2_with (first
      | (go_at_call 47; refine HH.out.mono ?_; rintro e w1 ⟨⟨v, N, t, rfl⟩, hb1⟩))
    go_ret2
    exact ⟨⟨v, by rw [HN.out]; rfl, by rw [HN.out]; simp⟩, hb1⟩
  · have hn : numC s = none := by unfold numC; rw [h]
    rw [h] at HA
    simp only at HA
    have HN := Lib.hid hn
    have HH := Lib.hid HA
    clear HA h hn HI
    go_enter Tryd.func34, Tryd.ntmps34
    go_wp2_with (first
      | (go_at_call 47; refine HH.out.mono ?_; rintro e w1 ⟨⟨v, N, t, rfl⟩, hb1⟩))
    go_ret2
    exact ⟨⟨v, by rw [HN.out]; rfl, by rw [HN.out]; simp⟩, hb1⟩
end Go.Proofs.YtbbklfjgojjlhaaDoor
