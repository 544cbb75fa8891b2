/- The walk of ApproachSorted. -/
import Derived.Test.YtmdfdjgeaemicaaF4
import Derived.Test.YtmdfdjgeaemicaaA4
import Derived.Test.YtmdfdjgeaemicaaClone
import Derived.Test.YtmdfdjgeaemicaaB4
namespace Go.Proofs.Ytmdfdjgeaemicaa
open Go.RowKit Go.Lib

def fillA (G : Int) (k : Nat) : Array Value := ((List.range 16).map fun i => Value.int .i64 (if i < k then G else 0)).toArray
theorem fillA_get (G : Int) (k i : Nat) (hi : i < 16) : (fillA G k)[i]? = some (.int .i64 (if i < k then G else 0)) := by simp [fillA, hi]
theorem fillA_set (G : Int) (k : Nat) (_ : k < 16) : (fillA G k).setIfInBounds k (.int .i64 G) = fillA G (k + 1) := by
  apply Array.ext
  · simp [fillA]
  · intro i h1 h2
    have hi : i < 16 := by simpa [fillA] using h2
    rw [Array.getElem_setIfInBounds (by simpa [fillA] using hi)]
    split
    · rename_i e; subst e; simp [fillA]
    · rename_i e
      simp only [fillA, List.getElem_toArray, List.getElem_map, List.getElem_range]
      congr 1
      by_cases h : i < k
      · rw [if_pos h, if_pos (by omega)]
      · rw [if_neg h, if_neg (by omega)]
theorem fillA_zero (G : Int) : fillA G 0 = #[.int .i64 0, .int .i64 0, .int .i64 0, .int .i64 0, .int .i64 0, .int .i64 0, .int .i64 0, .int .i64 0, .int .i64 0, .int .i64 0, .int .i64 0, .int .i64 0, .int .i64 0, .int .i64 0, .int .i64 0, .int .i64 0] := rfl
theorem fillA_gaps (G : Int) : Gaps (fillA G 16) (fun _ => G) := ⟨by simp [fillA], fun i hi => by rw [fillA_get G 16 i hi, if_pos hi]⟩
theorem bnx {w a b : World} (h : Below w.heap.size w a) (h' : Below a.heap.size a b) : Below w.heap.size w b := h.trans (h'.mono h.size)

set_option maxRecDepth 100000 in
set_option maxHeartbeats 4000000 in
theorem Sorted_bad (A : Option Addr) (n c : Nat) (its : Nat → It) (d x : Int) (w : World) (hn : n ≤ maxLen) (hx : cutI d 0 200 = x)
    (hA : Sl w w.heap.size 4 A n (fun i => (its i).row)) (hc : checkCode n its (fun _ => x) ≠ 0) :
    Calls Try.prog 7 #[.slice A n c, .int .i64 d] w fun e w' => e = .returned (.bool true) ∧ Below w.heap.size w w' := by
  have HX := Lib.hid hx
  clear hx
  have HTb := Lib.hid (fun (W : World) h => Times_bad A n c its (fillA x 16) (fun _ => x) W h hn (fillA_gaps x) hc)
  have hne : (checkCode n its (fun _ => x) != 0) = true := by rw [bne_iff_ne]; exact hc
  have hne2 : (checkCode n its (fun _ => x) == 0) = false := beq_eq_false_iff_ne.2 hc
  generalize checkCode n its (fun _ => x) = cc at *
  have HA := Lib.hid hA
  clear hc hA
  go_enter Try.func7, Try.ntmps7
  go_wp2_with (go_at_call 11; go_loud (refine (Cut_any _ _ _ _ (by omega) (by omega) (by omega)).mono ?_; rintro e w3 ⟨rfl, rfl⟩; rw [HX.out]))
  have hz0 : (w.alloc (.cells (fillA x 0) 24)).heap[w.heap.size]? = some (.cells (fillA x 0) 24 (0, 0)) := heap_alloc_new w _
  rw [fillA_zero] at hz0
  go_loopw [15] (fun i wr => ∃ a : Nat, a ≤ 4 ∧ i = .int .i64 (a : Int) ∧ Hid (wr.heap[w.heap.size]? = some (.cells (fillA x (a * 4)) 24 (0, 0))) ∧ Hid (Below w.heap.size w wr)) (fun i _ => 4 - (intOf i).toNat)
  case atStart => exact ⟨0, by omega, rfl, hz0, (Below.refl _ _).alloc (Nat.le_refl _) _⟩
  case round =>
    obtain ⟨a, ha, rfl, HA1, HBa⟩ := hrel
    by_cases hlt : a < 4
    · obtain ⟨wo, rfl⟩ : ∃ wo : World, wo = wr := ⟨_, rfl⟩
      have ha0 : (0 : Int) ≤ (a : Int) := by omega
      have ha4 : (a : Int) < 4 := by omega
      have hwa : IntKind.i64.wrap ((a : Int) + 1) = (a : Int) + 1 := IntWalk.i64_in _ (by omega)
      go_wp2_with fail
      go_loopw [18] (fun i wr => ∃ b : Nat, b ≤ 4 ∧ i = .int .i64 (b : Int) ∧ Hid (wr.heap[w.heap.size]? = some (.cells (fillA x (a * 4 + b)) 24 (0, 0))) ∧ Hid (Below w.heap.size w wr)) (fun i _ => 4 - (intOf i).toNat)
      case atStart => exact ⟨0, by omega, rfl, HA1, HBa⟩
      case round =>
        obtain ⟨b, hb, rfl, HA2, HBb⟩ := hrel
        by_cases hlb : b < 4
        · have hb0 : (0 : Int) ≤ (b : Int) := by omega
          have hb4 : (b : Int) < 4 := by omega
          have hwb : IntKind.i64.wrap ((b : Int) + 1) = (b : Int) + 1 := IntWalk.i64_in _ (by omega)
          have k1 : wr.cell? ⟨w.heap.size, a * 4 + b, none⟩ = some (.int .i64 0) := by
            rw [cell_of_row wr _ _ _ _ _ HA2.out, fillA_get x _ _ (by omega), if_neg (by omega)]
          have k2 : wr.frozen? ⟨w.heap.size, a * 4 + b, none⟩ = false := frozen_of_row wr _ _ _ _ HA2.out
          have hsame := heap_setCell_same wr w.heap.size (a * 4 + b) _ 24 (.int .i64 x) HA2.out
          rw [fillA_set x _ (by omega)] at hsame
          go_wp2_with fail
          go_roundw
          case rel => exact ⟨b + 1, by omega, by go_num, hsame, HBb.out.setCell (Nat.le_refl _) _⟩
          case measure => simp [intOf]; omega
        · obtain rfl : b = 4 := by omega
          go_wp2_with fail
          go_roundw
          case rel => exact ⟨a + 1, by omega, by go_num, by rw [Nat.add_mul]; exact HA2, HBb⟩
          case measure => simp [intOf]; omega
    · obtain rfl : a = 4 := by omega
      have hg16 : wr.heap[w.heap.size]? = some (.cells (fillA x 16) 24 (0, 0)) := HA1.out
      have HBz := Lib.hid (HBa.out.size)
      go_wp2_with (first
        | (first | (refine wpList_load_row rfl 24 _ rfl w.heap.size rfl 24 (fillA x 16) (0, 0) _ (by assumption) Try.underlying24 rfl (by kernel_rfl) ?_) | (refine wpList_load_row_w 24 _ rfl w.heap.size rfl rfl 24 (fillA x 16) (0, 0) _ (by assumption) Try.underlying24 rfl (by kernel_rfl) ?_))
        | (go_at_call 8; go_loud (refine (HTb.out _ ((HA.out.below HBa.out).more HBz.out)).mono ?_; rintro e w2 ⟨rfl, hb2⟩))
        | (go_at_call 9; go_loud (refine (fact_any _).mono ?_; rintro e w4 ⟨rfl, hb4⟩)))
      go_ret
      exact ⟨rfl, bnx (bnx HBa.out hb2) hb4⟩

set_option maxRecDepth 100000 in
set_option maxHeartbeats 4000000 in
theorem Sorted_zero (A : Option Addr) (n c : Nat) (l : List Va) (d x : Int) (w : World) (hn : n ≤ maxLen) (hx : cutI d 0 200 = x)
    (hA : Sl w w.heap.size 4 A n (fun i => (vi l i).row)) (hl : l.length = n) (h32 : n ≤ 32) (hx0 : 0 ≤ x ∧ x ≤ 200) (hnil : A = none → n = 0) (hz : n = 0) :
    Calls Try.prog 7 #[.slice A n c, .int .i64 d] w fun e w' => e = .returned (.bool true) ∧ Below w.heap.size w w' := by
  have HX := Lib.hid hx
  clear hx
  have HC := Lib.hid (va_code (g := fun _ => x) (l := l) h32 (fun i _ => by unfold gapOk; omega))
  have HTo := Lib.hid (fun (W : World) h => Times_ok A n c (vi l) (fillA x 16) (fun _ => x) W h hn (fillA_gaps x) HC.out)
  have HA := Lib.hid hA
  have hl2 := hl
  have hnil2 := hnil
  clear hA hx0 hl2 hnil2
  subst hz
  go_enter Try.func7, Try.ntmps7
  go_wp2_with (go_at_call 11; go_loud (refine (Cut_any _ _ _ _ (by omega) (by omega) (by omega)).mono ?_; rintro e w3 ⟨rfl, rfl⟩; rw [HX.out]))
  have hz0 : (w.alloc (.cells (fillA x 0) 24)).heap[w.heap.size]? = some (.cells (fillA x 0) 24 (0, 0)) := heap_alloc_new w _
  rw [fillA_zero] at hz0
  go_loopw [15] (fun i wr => ∃ a : Nat, a ≤ 4 ∧ i = .int .i64 (a : Int) ∧ Hid (wr.heap[w.heap.size]? = some (.cells (fillA x (a * 4)) 24 (0, 0))) ∧ Hid (Below w.heap.size w wr)) (fun i _ => 4 - (intOf i).toNat)
  case atStart => exact ⟨0, by omega, rfl, hz0, (Below.refl _ _).alloc (Nat.le_refl _) _⟩
  case round =>
    obtain ⟨a, ha, rfl, HA1, HBa⟩ := hrel
    by_cases hlt : a < 4
    · obtain ⟨wo, rfl⟩ : ∃ wo : World, wo = wr := ⟨_, rfl⟩
      have ha0 : (0 : Int) ≤ (a : Int) := by omega
      have ha4 : (a : Int) < 4 := by omega
      have hwa : IntKind.i64.wrap ((a : Int) + 1) = (a : Int) + 1 := IntWalk.i64_in _ (by omega)
      go_wp2_with fail
      go_loopw [18] (fun i wr => ∃ b : Nat, b ≤ 4 ∧ i = .int .i64 (b : Int) ∧ Hid (wr.heap[w.heap.size]? = some (.cells (fillA x (a * 4 + b)) 24 (0, 0))) ∧ Hid (Below w.heap.size w wr)) (fun i _ => 4 - (intOf i).toNat)
      case atStart => exact ⟨0, by omega, rfl, HA1, HBa⟩
      case round =>
        obtain ⟨b, hb, rfl, HA2, HBb⟩ := hrel
        by_cases hlb : b < 4
        · have hb0 : (0 : Int) ≤ (b : Int) := by omega
          have hb4 : (b : Int) < 4 := by omega
          have hwb : IntKind.i64.wrap ((b : Int) + 1) = (b : Int) + 1 := IntWalk.i64_in _ (by omega)
          have k1 : wr.cell? ⟨w.heap.size, a * 4 + b, none⟩ = some (.int .i64 0) := by
            rw [cell_of_row wr _ _ _ _ _ HA2.out, fillA_get x _ _ (by omega), if_neg (by omega)]
          have k2 : wr.frozen? ⟨w.heap.size, a * 4 + b, none⟩ = false := frozen_of_row wr _ _ _ _ HA2.out
          have hsame := heap_setCell_same wr w.heap.size (a * 4 + b) _ 24 (.int .i64 x) HA2.out
          rw [fillA_set x _ (by omega)] at hsame
          go_wp2_with fail
          go_roundw
          case rel => exact ⟨b + 1, by omega, by go_num, hsame, HBb.out.setCell (Nat.le_refl _) _⟩
          case measure => simp [intOf]; omega
        · obtain rfl : b = 4 := by omega
          go_wp2_with fail
          go_roundw
          case rel => exact ⟨a + 1, by omega, by go_num, by rw [Nat.add_mul]; exact HA2, HBb⟩
          case measure => simp [intOf]; omega
    · obtain rfl : a = 4 := by omega
      have hg16 : wr.heap[w.heap.size]? = some (.cells (fillA x 16) 24 (0, 0)) := HA1.out
      have HBz := Lib.hid (HBa.out.size)
      go_wp2_with (first
        | (first | (refine wpList_load_row rfl 24 _ rfl w.heap.size rfl 24 (fillA x 16) (0, 0) _ (by assumption) Try.underlying24 rfl (by kernel_rfl) ?_) | (refine wpList_load_row_w 24 _ rfl w.heap.size rfl rfl 24 (fillA x 16) (0, 0) _ (by assumption) Try.underlying24 rfl (by kernel_rfl) ?_))
        | (go_at_call 8; go_loud (refine (HTo.out _ ((HA.out.below HBa.out).more HBz.out)).mono ?_; rintro e w2 ⟨v, rfl, hT, hb2⟩; obtain ⟨T, ct, rfl⟩ := own_shape hT))
        | (go_at_call 9; go_loud (refine (fact_any _).mono ?_; rintro e w4 ⟨rfl, hb4⟩)))
      go_ret
      exact ⟨rfl, bnx (bnx HBa.out hb2) hb4⟩

set_option maxRecDepth 100000 in
set_option maxHeartbeats 4000000 in
theorem Sorted_ok (A : Option Addr) (n c : Nat) (l : List Va) (d x : Int) (w : World) (hn : n ≤ maxLen) (hx : cutI d 0 200 = x)
    (hA : Sl w w.heap.size 4 A n (fun i => (vi l i).row)) (hl : l.length = n) (h32 : n ≤ 32) (hx0 : 0 ≤ x ∧ x ≤ 200) (hnil : A = none → n = 0) (hz : 0 < n) :
    Calls Try.prog 7 #[.slice A n c, .int .i64 d] w fun e w' => e = .returned (.bool true) ∧ Below w.heap.size w w' := by
  have HX := Lib.hid hx
  clear hx
  have HC := Lib.hid (va_code (g := fun _ => x) (l := l) h32 (fun i _ => by unfold gapOk; omega))
  have HTo := Lib.hid (fun (W : World) h => Times_ok A n c (vi l) (fillA x 16) (fun _ => x) W h hn (fillA_gaps x) HC.out)
  have HA := Lib.hid hA
  have HN := Lib.hid hnil
  have HL := Lib.hid hl
  have HX0 := Lib.hid hx0
  have hn0 : ((n : Int) == 0) = false := by simp; omega
  have HTs := Lib.hid (fun (s : List Va) (b cap : Nat) (W : World) h => Times_ok (some ⟨b, 0, none⟩) n cap (vi s) (fillA x 16) (fun _ => x) W h hn (fillA_gaps x) (va_code (g := fun _ => x) (l := s) h32 (fun i _ => by unfold gapOk; omega)))
  have HRow : Hid (flatR (fun i => (vi l i).row) n = rowsV vaV l) := Lib.hid (by rw [rowsV_flat vaV_len l, hl]; rfl)
  clear hA hx0 hl hnil
  go_enter Try.func7, Try.ntmps7
  go_wp2_with (go_at_call 11; go_loud (refine (Cut_any _ _ _ _ (by omega) (by omega) (by omega)).mono ?_; rintro e w3 ⟨rfl, rfl⟩; rw [HX.out]))
  have hz0 : (w.alloc (.cells (fillA x 0) 24)).heap[w.heap.size]? = some (.cells (fillA x 0) 24 (0, 0)) := heap_alloc_new w _
  rw [fillA_zero] at hz0
  go_loopw [15] (fun i wr => ∃ a : Nat, a ≤ 4 ∧ i = .int .i64 (a : Int) ∧ Hid (wr.heap[w.heap.size]? = some (.cells (fillA x (a * 4)) 24 (0, 0))) ∧ Hid (Below w.heap.size w wr)) (fun i _ => 4 - (intOf i).toNat)
  case atStart => exact ⟨0, by omega, rfl, hz0, (Below.refl _ _).alloc (Nat.le_refl _) _⟩
  case round =>
    obtain ⟨a, ha, rfl, HA1, HBa⟩ := hrel
    by_cases hlt : a < 4
    · obtain ⟨wo, rfl⟩ : ∃ wo : World, wo = wr := ⟨_, rfl⟩
      have ha0 : (0 : Int) ≤ (a : Int) := by omega
      have ha4 : (a : Int) < 4 := by omega
      have hwa : IntKind.i64.wrap ((a : Int) + 1) = (a : Int) + 1 := IntWalk.i64_in _ (by omega)
      go_wp2_with fail
      go_loopw [18] (fun i wr => ∃ b : Nat, b ≤ 4 ∧ i = .int .i64 (b : Int) ∧ Hid (wr.heap[w.heap.size]? = some (.cells (fillA x (a * 4 + b)) 24 (0, 0))) ∧ Hid (Below w.heap.size w wr)) (fun i _ => 4 - (intOf i).toNat)
      case atStart => exact ⟨0, by omega, rfl, HA1, HBa⟩
      case round =>
        obtain ⟨b, hb, rfl, HA2, HBb⟩ := hrel
        by_cases hlb : b < 4
        · have hb0 : (0 : Int) ≤ (b : Int) := by omega
          have hb4 : (b : Int) < 4 := by omega
          have hwb : IntKind.i64.wrap ((b : Int) + 1) = (b : Int) + 1 := IntWalk.i64_in _ (by omega)
          have k1 : wr.cell? ⟨w.heap.size, a * 4 + b, none⟩ = some (.int .i64 0) := by
            rw [cell_of_row wr _ _ _ _ _ HA2.out, fillA_get x _ _ (by omega), if_neg (by omega)]
          have k2 : wr.frozen? ⟨w.heap.size, a * 4 + b, none⟩ = false := frozen_of_row wr _ _ _ _ HA2.out
          have hsame := heap_setCell_same wr w.heap.size (a * 4 + b) _ 24 (.int .i64 x) HA2.out
          rw [fillA_set x _ (by omega)] at hsame
          go_wp2_with fail
          go_roundw
          case rel => exact ⟨b + 1, by omega, by go_num, hsame, HBb.out.setCell (Nat.le_refl _) _⟩
          case measure => simp [intOf]; omega
        · obtain rfl : b = 4 := by omega
          go_wp2_with fail
          go_roundw
          case rel => exact ⟨a + 1, by omega, by go_num, by rw [Nat.add_mul]; exact HA2, HBb⟩
          case measure => simp [intOf]; omega
    · obtain rfl : a = 4 := by omega
      have hg16 : wr.heap[w.heap.size]? = some (.cells (fillA x 16) 24 (0, 0)) := HA1.out
      have HBz := Lib.hid (HBa.out.size)
      have tokU : True := trivial
      go_wp2_with (first
        | (first | (refine wpList_load_row rfl 24 _ rfl w.heap.size rfl 24 (fillA x 16) (0, 0) _ (by assumption) Try.underlying24 rfl (by kernel_rfl) ?_) | (refine wpList_load_row_w 24 _ rfl w.heap.size rfl rfl 24 (fillA x 16) (0, 0) _ (by assumption) Try.underlying24 rfl (by kernel_rfl) ?_))
        | (go_at_call 8; have _t := HSl; go_loud (refine (HTs.out s g3 c3 w5 HSl.out).mono ?_; rintro e w6 ⟨v6, rfl, hU, hb6⟩; obtain ⟨U, cu, rfl⟩ := own_shape hU; obtain ⟨bu, ou, hue, hbu, hru⟩ := (Sl_ints hU).one (by omega); subst hue; have HRU := Lib.hid hru; have HB6 := Lib.hid hb6; have HM := Lib.hid (sorted_least (g := fun _ => x) (G := x) (fun _ _ => rfl) HX0.out.1 hz HL.out HP.out HS.out); clear hU hru hb6))
        | (go_at_call 8; go_loud (refine (HTo.out _ ((HA.out.below HBa.out).more HBz.out)).mono ?_; rintro e w2 ⟨v, rfl, hT, hb2⟩; obtain ⟨T, ct, rfl⟩ := own_shape hT; have HB2 := Lib.hid (bnx HBa.out hb2); have hx2 := (hb2.block _ (Array.getElem?_eq_some_iff.1 hg16).1).trans hg16; have HW2 := Lib.hid (Array.getElem?_eq_some_iff.1 hx2).1; obtain ⟨bt, ot, hbe, hbt, hrt⟩ := (Sl_ints hT).one (by omega); subst hbe; have HRT := Lib.hid hrt; clear hT hb2 hg16 hrt))
        | (go_at_call 12; go_loud (refine (CloneItems_any A n c (fun i => (vi l i).row) w2 ((HA.out.below HB2.out).more HB2.out.size) (fun _ _ => rfl) (fun i _ => vaV_one (l[i]!)) HN.out hn (by omega)).mono ?_; rintro e w3 ⟨v3, rfl, ho3, hb3⟩; rw [HRow.out] at ho3; obtain ⟨A3, c3, rfl⟩ := own_shape ho3; obtain ⟨g3, cap3, hv3, hbg3, hlt3⟩ := ho3.form (by omega); obtain rfl : A3 = some ⟨g3, 0, none⟩ := (by injection hv3); have HO3 := Lib.hid ho3; have HB3 := Lib.hid hb3; have hx3 := (hb3.block _ HW2.out).trans hx2; have HZ3 := Lib.hid hbg3; clear ho3 hb3 hx2 hv3 hbg3))
        | (go_at_call 20; go_loud (refine (SortIt_any g3 c3 n _ l w3 HO3.out HL.out (by omega)).mono ?_; rintro e w5 ⟨rfl, ⟨s, hps, hss, hsl⟩, hb5⟩; have HP := Lib.hid hps; have HS := Lib.hid hss; have HSl := Lib.hid hsl; have HB5 := Lib.hid (hb5 w2.heap.size HZ3.out HB3.out.size); have hx5 : w5.heap[w.heap.size]? = some (.cells (fillA x 16) 24 (0, 0)) := (HB5.out.block _ HW2.out).trans hx3; clear hps hss hsl hb5 hx3))
        | (go_at_call 9; go_loud (refine (fact_any _).mono ?_; rintro e w7 ⟨rfl, hb7⟩; have HB7 := Lib.hid hb7; have HBt := Lib.hid (show Below w2.heap.size w2 w7 from HB3.out.trans (HB5.out.trans ((HB6.out.mono (Nat.le_trans HB3.out.size HB5.out.size)).trans (hb7.mono (Nat.le_trans (Nat.le_trans HB3.out.size HB5.out.size) HB6.out.size))))); clear hb7))
        | (go_at_call 22; have _t := tokU; go_loud (clear tokU _t; refine (Max_any bu ou n cu (tT (fun _ => x) (vi s)) w7 hz (by omega) (fun j hj => (HB7.out.cell (p := ⟨bu, ou + j, none⟩) hbu).trans (HRU.out j hj))).mono ?_; rintro e w8 ⟨rfl, rfl⟩))
        | (go_at_call 22; go_loud (refine (Max_any bt ot n ct (tT (fun _ => x) (vi l)) w8 hz (by omega) (fun j hj => (HBt.out.cell (p := ⟨bt, ot + j, none⟩) hbt).trans (HRT.out j hj))).mono ?_; rintro e w9 ⟨rfl, rfl⟩; have hmx := HM.out)))
      go_ret
      exact ⟨rfl, HB2.out.trans (HBt.out.mono HB2.out.size)⟩
end Go.Proofs.Ytmdfdjgeaemicaa
