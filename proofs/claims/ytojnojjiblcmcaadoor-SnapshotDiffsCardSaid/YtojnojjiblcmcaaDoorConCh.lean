/- slices.Grow of nothing, slices.Concat of two slices: one instance. -/
import Derived.Test.YtojnojjiblcmcaaDoorConRw
namespace Go.Proofs.YtojnojjiblcmcaaDoor
open Go.RowKit

theorem ConCh_info : (Tryd.prog.info? 49).map (fun i => (i.zero, i.size, i.bytes)) = some (some (.agg #[.string ByteArray.empty, .bool false, .bool false, .string ByteArray.empty, .string ByteArray.empty]), 5, 56) := by kernel_rfl

set_option maxRecDepth 100000 in
set_option maxHeartbeats 2000000 in
theorem GrowCh_nil (n : Nat) (w : World) (hn : n ≤ 1000) : Calls Tryd.prog 40 #[.slice none 0 0, .int .i64 (n : Int)] w fun e w' => ∃ v, e = .returned v ∧ w'.ownsRow w.heap.size 49 5 v 0 [] ∧ Below w.heap.size w w' := by
  obtain ⟨i0, J0, J1, J2, J3⟩ := info_parts ConCh_info
  by_cases h0 : 0 < n
  · have hrun := Lib.run_append_nil_zeros (P := Tryd.prog) w 43 3 43 49 i0 (.agg #[.string ByteArray.empty, .bool false, .bool false, .string ByteArray.empty, .string ByteArray.empty]) .i64 .i64 Tryd.underlying43 Tryd.underlying3 J0 J1 n h0 (by rw [J2]; decide) (by omega) (by rw [J3]; omega)
    have hge := grownCap_ge w n 0 49
    have hle := grownCap_le_maxLen w n 0 49 (by unfold maxLen; omega)
    generalize grownCap w n 0 49 = cap at *
    have hpos : decide ((0 : Int) < (n : Int)) = true := decide_eq_true (by omega)
    have hn0 : (0 : Int) ≤ (n : Int) := by omega
    have HR := Lib.hid hrun
    have hcap : (cap : Int) ≤ 9223372036854775807 := by unfold maxLen at hle; omega
    have HLE := Lib.hid hle
    clear hrun hle
    go_enter Tryd.func40, Tryd.ntmps40
    go_wp2_with (at_builtin; go_loud (refine Lib.wpList_append_run w rfl (.tmp 20) (.tmp 21) 43 3 rfl _ _ rfl rfl _ _ HR.out ?_))
    go_ret
    refine ⟨_, rfl, ⟨rfl, .inr ⟨w.heap.size, cap, _, rfl, Nat.le_refl _, heap_alloc_new w.drew _, Nat.zero_le _, HLE.out, ?_, by simp⟩⟩, ((Below.refl _ w).drew).alloc (Nat.le_refl _) _⟩
    simp [Builtin.zeroCells]
    omega
  · obtain rfl : n = 0 := by omega
    go_enter Tryd.func40, Tryd.ntmps40
    go_wp2
    go_ret
    exact ⟨_, rfl, World.ownsRow_nil _ _ _ _, Below.refl _ _⟩

set_option maxRecDepth 100000 in
set_option maxHeartbeats 4000000 in
theorem ConcatCh_two (b : Nat) (A1 A2 : Option Addr) (n1 n2 c1 c2 : Nat) (r1 r2 : Nat → List Value) (w : World) (hb : w.heap[b]? = some (.cells #[.slice A1 n1 c1, .slice A2 n2 c2] 43 (0, 0))) (h1 : Sl w w.heap.size 5 A1 n1 r1) (h2 : Sl w w.heap.size 5 A2 n2 r2)
    (hl1 : ∀ i, i < n1 → (r1 i).length = 5) (hl2 : ∀ i, i < n2 → (r2 i).length = 5) (o1 : ∀ u ∈ flatR r1 n1, u.oneCell' = true) (o2 : ∀ u ∈ flatR r2 n2, u.oneCell' = true)
    (hn1 : A1 = none → n1 = 0) (hn2 : A2 = none → n2 = 0) (hm1 : n1 ≤ 400) (hm2 : n2 ≤ 400) :
    Calls Tryd.prog 22 #[.slice (some ⟨b, 0, none⟩) 2 2] w fun e w' => ∃ A c, e = .returned (.slice A (n1 + n2) c) ∧ w'.ownsRow w.heap.size 49 5 (.slice A (n1 + n2) c) (n1 + n2) (flatR r1 n1 ++ flatR r2 n2) ∧ Below w.heap.size w w' := by
  obtain ⟨i0, J0, J1, J2, J3⟩ := info_parts ConCh_info
  have hbl : b < w.heap.size := (Array.getElem?_eq_some_iff.1 hb).1
  have k0 : w.cell? ⟨b, 0, none⟩ = some (.slice A1 n1 c1) := cell_of_row w b 0 _ 43 (0, 0) hb
  have k1 : w.cell? ⟨b, 1, none⟩ = some (.slice A2 n2 c2) := cell_of_row w b 1 _ 43 (0, 0) hb
  have H1 := Lib.hid (And.intro h1 hn1)
  have H2 := Lib.hid (And.intro h2 hn2)
  have HO := Lib.hid (And.intro o1 o2)
  have HL1 := Lib.hid hl1
  have HL2 := Lib.hid hl2
  clear hb h1 h2 hn1 hn2 o1 o2 hl1 hl2
  have p1 : (0 : Int) ≤ (n1 : Int) := by omega
  have p2 : (0 : Int) ≤ (n2 : Int) := by omega
  go_enter Tryd.func22, Tryd.ntmps22
  go_wp2
  go_loop [3, 11] (fun s k => ∃ j : Nat, j ≤ 2 ∧ k = .int .i64 j ∧ s = .int .i64 (conN n1 n2 j : Nat)) (fun _ k => 2 - (intOf k).toNat)
  case atStart => exact ⟨0, by omega, rfl, rfl⟩
  case round =>
    obtain ⟨j, hj, rfl, rfl⟩ := hrel
    by_cases hlt : j < 2
    · rcases (show j = 0 ∨ j = 1 by omega) with rfl | rfl
      · have e0 : conN n1 n2 0 = 0 := rfl
        simp only [e0]
        clear e0
        go_wp2
        exact ⟨⟨1, by omega, by go_num, rfl⟩, by simp [intOf]⟩
      · have e1 : conN n1 n2 1 = n1 := rfl
        simp only [e1]
        clear e1
        go_wp2
        exact ⟨⟨2, by omega, by go_num, by show _ = Value.int .i64 ((n1 + n2 : Nat) : Int); go_num⟩, by simp [intOf]⟩
    · obtain rfl : j = 2 := by omega
      have e2 : conN n1 n2 2 = n1 + n2 := rfl
      simp only [e2]
      clear e2
      have pp : (0 : Int) ≤ ((n1 + n2 : Nat) : Int) := by omega
      have pp2 : ((n1 + n2 : Nat) : Int) ≤ 800 := by omega
      have HG := Lib.hid (GrowCh_nil (n1 + n2) w (by omega))
      obtain ⟨nn, hnn⟩ : ∃ nn, n1 + n2 = nn := ⟨_, rfl⟩
      rw [hnn] at HG pp pp2 ⊢
      have HNN := Lib.hid hnn
      clear hnn
      go_wp2_with (go_at_call 40; go_loud (refine HG.out.mono ?_; rintro e w2 ⟨v2, rfl, hv2, hb2⟩; have HG2 := Lib.hid (And.intro hv2 hb2); clear hv2 hb2))
      go_loopw [6, 8, 27] (fun v _ k wr => ∃ (j : Nat) (l : List Value), j ≤ 2 ∧ k = .int .i64 j ∧ Hid (l = conR (flatR r1 n1) (flatR r2 n2) j) ∧ wr.ownsRow w.heap.size 49 5 v (conN n1 n2 j) l ∧ Below w.heap.size w wr) (fun _ _ k _ => 2 - (intOf k).toNat)
      case atStart => exact ⟨0, [], by omega, rfl, Lib.hid rfl, HG2.out.1, HG2.out.2⟩
      case round =>
        obtain ⟨j, l, hj, rfl, HLL, hown, hb⟩ := hrel
        obtain ⟨V, cv, rfl⟩ := own_shape hown
        have HB := Lib.hid hb
        have hz := hb.size
        by_cases hlt : j < 2
        · rcases (show j = 0 ∨ j = 1 by omega) with rfl | rfl
          · have m0 : wr.cell? ⟨b, 0, none⟩ = some (.slice A1 n1 c1) := (hb.cell (p := ⟨b, 0, none⟩) hbl).trans k0
            have HOWN : Hid (wr.ownsRow w.heap.size 49 5 (.slice V 0 cv) 0 l) := Lib.hid hown
            change Hid (l = []) at HLL
            have e0 : conN n1 n2 0 = 0 := rfl
            simp only [e0]
            clear e0 hown hb
            go_wp2_with (at_builtin; go_loud (refine wpList_append_l rfl (.tmp 31) (.tmp 32) 43 rfl w.heap.size 49 i0 (.agg #[.string ByteArray.empty, .bool false, .bool false, .string ByteArray.empty, .string ByteArray.empty]) 5 56 Tryd.underlying43 J0 J1 J2 J3 rfl (by decide) (.slice V 0 cv) 0 l rfl HOWN.out A1 n1 c1 r1 rfl w.heap.size (H1.out.1.below HB.out) HL1.out HO.out.1 (by omega) (by decide) hz H1.out.2 ?_); intro v3 w3 hv3 hg3 hat3)
            go_roundw
            case rel => exact ⟨1, flatR r1 n1, by omega, by go_num, Lib.hid rfl, by rw [HLL.out, Nat.zero_add, List.nil_append] at hv3; exact hv3, HB.out.grown hg3 hz (fun k hk => (HOWN.out.lt k hk).1)⟩
            case measure => simp [intOf]
          · have m1 : wr.cell? ⟨b, 1, none⟩ = some (.slice A2 n2 c2) := (hb.cell (p := ⟨b, 1, none⟩) hbl).trans k1
            have HOWN : Hid (wr.ownsRow w.heap.size 49 5 (.slice V n1 cv) n1 l) := Lib.hid hown
            change Hid (l = flatR r1 n1) at HLL
            have e0 : conN n1 n2 1 = n1 := rfl
            simp only [e0]
            clear e0 hown hb
            go_wp2_with (at_builtin; go_loud (refine wpList_append_l rfl (.tmp 31) (.tmp 32) 43 rfl w.heap.size 49 i0 (.agg #[.string ByteArray.empty, .bool false, .bool false, .string ByteArray.empty, .string ByteArray.empty]) 5 56 Tryd.underlying43 J0 J1 J2 J3 rfl (by decide) (.slice V n1 cv) n1 l rfl HOWN.out A2 n2 c2 r2 rfl w.heap.size (H2.out.1.below HB.out) HL2.out HO.out.2 (by omega) (by decide) hz H2.out.2 ?_); intro v3 w3 hv3 hg3 hat3)
            go_roundw
            case rel => exact ⟨2, flatR r1 n1 ++ flatR r2 n2, by omega, by go_num, Lib.hid rfl, by rw [HLL.out] at hv3; exact hv3, HB.out.grown hg3 hz (fun k hk => (HOWN.out.lt k hk).1)⟩
            case measure => simp [intOf]
        · obtain rfl : j = 2 := by omega
          change Hid (l = flatR r1 n1 ++ flatR r2 n2) at HLL
          have HOWN : Hid (wr.ownsRow w.heap.size 49 5 (.slice V (n1 + n2) cv) (n1 + n2) l) := Lib.hid hown
          have e0 : conN n1 n2 2 = n1 + n2 := rfl
          simp only [e0]
          clear e0 hown hb
          go_wp2
          go_ret
          exact ⟨V, cv, rfl, by rw [← HLL.out]; exact HOWN.out, HB.out⟩
end Go.Proofs.YtojnojjiblcmcaaDoor
