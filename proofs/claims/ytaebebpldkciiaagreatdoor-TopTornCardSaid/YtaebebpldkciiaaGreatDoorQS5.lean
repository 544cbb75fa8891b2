/- Package angle: Norm, Sin, Cos, near, Vector. -/
import Derived.Test.YtaebebpldkciiaaGreatDoorQS4
namespace Go.Proofs.YtaebebpldkciiaaGreatDoor
open Go.RowKit
def IntP (lo hi : Int) (w : World) (e : Ending) (w' : World) : Prop := ∃ n : Int, e = .returned (.int .i64 n) ∧ lo ≤ n ∧ n ≤ hi ∧ w' = w
set_option maxRecDepth 100000 in
theorem Norm_any (h : Int) (w : World) : Calls Tryz.prog 201 #[.int .i64 h] w (IntP 0 4095 w) := by
 go_enter Tryz.func201, Tryz.ntmps201
 go_wp2
 go_ret
 refine ⟨_, rfl, ?_, ?_, rfl⟩
 all_goals
  have h0 := Int.tmod_lt_of_pos (-h) (show (0 : Int) < 4096 by decide)
  rw [Int.neg_tmod] at h0
  have h00 := Int.tmod_lt_of_pos h (show (0 : Int) < 4096 by decide)
  have h1 : -4096 < h.tmod 4096 ∧ h.tmod 4096 < 4096 := by omega
  have h2 : wrap64 (h.tmod 4096 + 4096) = h.tmod 4096 + 4096 := IntWalk.wrap64_in _ (by omega)
  rw [h2]
  have h3 := Int.tmod_lt_of_pos (h.tmod 4096 + 4096) (show (0 : Int) < 4096 by decide)
  have h4 := Int.tmod_nonneg 4096 (show (0 : Int) ≤ h.tmod 4096 + 4096 by omega)
  omega
def nearP (n : Int) : Int := if n < 0 then -((-n + 8192) / 16384) else (n + 8192) / 16384
theorem nearP_in (n : Int) (h1 : -1000000000000 ≤ n) (h2 : n ≤ 1000000000000) : -100000000 ≤ nearP n ∧ nearP n ≤ 100000000 := by
 unfold nearP
 split <;> omega
set_option maxRecDepth 100000 in
theorem near_pos (n : Int) (hn : 0 ≤ n) (hn1 : n ≤ 1000000000000) (w : World) : Calls Tryz.prog 166 #[.int .i64 n, .int .i64 16384] w fun e w' => e = .returned (.int .i64 ((n + 8192) / 16384)) ∧ w' = w := by
 go_enter Tryz.func166, Tryz.ntmps166
 go_wp2
 go_ret
 exact ⟨rfl, rfl⟩
set_option maxRecDepth 100000 in
theorem near_any (n : Int) (h1 : -1000000000000 ≤ n) (h2 : n ≤ 1000000000000) (w : World) : Calls Tryz.prog 166 #[.int .i64 n, .int .i64 16384] w fun e w' => e = .returned (.int .i64 (nearP n)) ∧ w' = w := by
 unfold nearP
 by_cases h : n < 0
 ·rw [if_pos h]
  have HN := Lib.hid (near_pos (-n) (by omega) (by omega) w)
  have hw1 : IntKind.i64.wrap (-n) = -n := IntWalk.i64_in _ (by omega)
  have hw2 : IntKind.i64.wrap (-((-n + 8192) / 16384)) = -((-n + 8192) / 16384) := IntWalk.i64_in _ (by omega)
  go_enter Tryz.func166, Tryz.ntmps166
  go_wp2_with (go_at_call 166; refine HN.out.mono ?_; rintro e w1 ⟨rfl, hw⟩; obtain rfl := hw.symm)
  go_ret
  exact ⟨rfl, rfl⟩
 ·rw [if_neg h]
  exact near_pos n (by omega) h2 w
set_option maxRecDepth 100000 in
theorem MSin_any (x r : Nat) (h : sinW x = some r) (w : World) (ht : TabAt w) : Calls Tryz.prog 200 #[.float .f64 x] w fun e w' => e = .returned (.float .f64 r) ∧ w' = w := by
 have HS := Lib.hid (sin_any x r h w ht)
 clear ht h
 go_enter Tryz.func200, Tryz.ntmps200
 go_wp2_with (go_at_call 224; refine HS.out.mono ?_; rintro e w1 ⟨rfl, hw⟩; obtain rfl := hw.symm)
 go_ret
 exact ⟨rfl, rfl⟩
set_option maxRecDepth 100000 in
theorem Sin_any (h : Int) (w : World) (ht : TabAt w) : Calls Tryz.prog 167 #[.int .i64 h] w (IntP (-16384) 16384 w) := by
 have HN := Lib.hid (Norm_any h w)
 have HK : Hid (∀ v : Int, 0 ≤ v → v ≤ 4095 → ∃ a x s m n, fb .mul (floatOfInt .f64 v) 4614256656552045848 = some a ∧ fb .quo a 4656722014701092864 = some x ∧ sinW x = some s ∧ fb .mul 4670232813583204352 s = some m ∧ floatToIntVal .f64 (rdI m).toNat .i64 = some n ∧ -16384 ≤ n ∧ n ≤ 16384) := Lib.hid (fun v h0 h1 => by
  have hb := sinB_all v.toNat (by omega)
  unfold sinB at hb
  split at hb
  ·rename_i n hn
   rw [Bool.and_eq_true, decide_eq_true_eq, decide_eq_true_eq] at hb
   unfold sinO at hn
   obtain ⟨x, hx, hn⟩ := Option.bind_eq_some_iff.1 hn
   obtain ⟨s, hs, hn⟩ := Option.bind_eq_some_iff.1 hn
   obtain ⟨m, hm, hn⟩ := Option.bind_eq_some_iff.1 hn
   unfold argW at hx
   obtain ⟨a, ha, hx⟩ := Option.bind_eq_some_iff.1 hx
   refine ⟨a, x, s, m, n, ?_, hx, by rw [sinW_fast]; exact hs, by rw [fb_mul]; exact hm, by rw [toFV_i]; exact hn, hb.1, hb.2⟩
   rw [fb_mul, ofF_eq, ← show ((v.toNat : Nat) : Int) = v by omega]
   exact ha
  ·cases hb)
 have HT := Lib.hid ht
 clear ht
 go_enter Tryz.func167, Tryz.ntmps167
 go_upto_region 1 with (fail)
 have F_1 : Hid (∀ v : Int, (convert 3 254 (.int .i64 v)).run Tryz.prog w = .ok (.float .f64 (floatOfInt .f64 v)) w) := Lib.hid (fun v => run_convert_int_float (P := Tryz.prog) w 3 254 .i64 .f64 v (by kernel_rfl) (by kernel_rfl))
 go_wp2_with (first
  | (go_at_call 201; refine HN.out.mono ?_; rintro e w1 ⟨v, rfl, hv0, hv1, hw⟩; obtain rfl := hw.symm; obtain ⟨a, x, s, m, n, ha, hx, hs, hm, hn, hn0, hn1⟩ := HK.out v hv0 hv1; have F1 := F_1.out v; have F2 := fb_run ha w; have F3 := fb_run hx w; have F4 := fb_run hm w; have F5 := run_convert_float_int (P := Tryz.prog) w 254 3 .f64 .i64 (rdI m).toNat n (by kernel_rfl) (by kernel_rfl) hn)
  | (go_at_call 200; refine (MSin_any x s hs w HT.out).mono ?_; rintro e w1 ⟨rfl, hw⟩; obtain rfl := hw.symm)
  | (go_at_call 199; refine (Round_any m w).mono ?_; rintro e w1 ⟨rfl, hw⟩; obtain rfl := hw.symm))
 go_ret
 exact ⟨n, rfl, hn0, hn1, rfl⟩
set_option maxRecDepth 100000 in
theorem Cos_any (h : Int) (w : World) (ht : TabAt w) : Calls Tryz.prog 168 #[.int .i64 h] w (IntP (-16384) 16384 w) := by
 have HN := Lib.hid (Norm_any h w)
 have HS := Lib.hid (fun v => Sin_any v w ht)
 clear ht
 go_enter Tryz.func168, Tryz.ntmps168
 go_wp2_with (first
  | (go_at_call 201; refine HN.out.mono ?_; rintro e w1 ⟨v, rfl, hv0, hv1, hw⟩; obtain rfl := hw.symm; have hv : IntKind.i64.wrap (v + 1024) = v + 1024 := IntWalk.i64_in _ (by omega))
  | (go_at_call 167; refine (HS.out _).mono ?_; rintro e w1 ⟨n, rfl, hn0, hn1, hw⟩; obtain rfl := hw.symm))
 go_ret
 exact ⟨n, rfl, hn0, hn1, rfl⟩
def VecP (w : World) (e : Ending) (w' : World) : Prop := ∃ x y k : Int, e = .returned (.tuple #[.agg #[.int .i64 x, .int .i64 y], .int .i64 k]) ∧ -100000000 ≤ x ∧ x ≤ 100000000 ∧ -100000000 ≤ y ∧ y ≤ 100000000 ∧ Below w.heap.size w w'
set_option maxRecDepth 100000 in
set_option maxHeartbeats 2000000 in
theorem Vector_any (h l : Int) (hl0 : 0 ≤ l) (hl1 : l ≤ 2000000) (w : World) (ht : TabAt w) : Calls Tryz.prog 119 #[.int .i64 h, .int .i64 l] w (VecP w) := by
 have HS := Lib.hid (fun (W : World) (hb : Below w.heap.size w W) => Sin_any h W (ht.below hb))
 have HC := Lib.hid (fun (W : World) (hb : Below w.heap.size w W) => Cos_any h W (ht.below hb))
 have HM : Hid (∀ s : Int, -16384 ≤ s → s ≤ 16384 → -1000000000000 ≤ l * s ∧ l * s ≤ 1000000000000) := Lib.hid (fun s h0 h1 => by
  have k1 : l * s ≤ l * 16384 := Int.mul_le_mul_of_nonneg_left h1 hl0
  have k2 : l * (-16384) ≤ l * s := Int.mul_le_mul_of_nonneg_left h0 hl0
  constructor <;> omega)
 have tok1 : True := trivial
 have tok2 : True := trivial
 clear ht
 go_enter Tryz.func119, Tryz.ntmps119
 go_wp2_with (first
  | (go_at_call 167; refine (HS.out _ (by first | exact (Below.refl _ _).alloc (Nat.le_refl _) _ | exact ((Below.refl _ _).alloc (Nat.le_refl _) _).drew)).mono ?_; rintro e w1 ⟨s, rfl, hs0, hs1, hw⟩; obtain rfl := hw.symm; obtain ⟨hm0, hm1⟩ := HM.out s hs0 hs1; have hmw : IntKind.i64.wrap (l * s) = l * s := IntWalk.i64_in _ (by omega); have HN := Lib.hid (fun W => near_any (l * s) hm0 hm1 W); have HNb := Lib.hid (nearP_in (l * s) hm0 hm1); clear hm0 hm1)
  | (go_at_call 168; refine (HC.out _ (by first | exact (Below.refl _ _).alloc (Nat.le_refl _) _ | exact ((Below.refl _ _).alloc (Nat.le_refl _) _).drew)).mono ?_; rintro e w1 ⟨c, rfl, hc0, hc1, hw⟩; obtain rfl := hw.symm; obtain ⟨hm0, hm1⟩ := HM.out c hc0 hc1; have hcw : IntKind.i64.wrap (l * c) = l * c := IntWalk.i64_in _ (by omega); have HN2 := Lib.hid (fun W => near_any (l * c) hm0 hm1 W); have HNc := Lib.hid (nearP_in (l * c) hm0 hm1); clear hm0 hm1)
  | (go_at_call 166; have _t := tok1; clear tok1; refine (HN.out _).mono ?_; rintro e w1 ⟨rfl, hw⟩; obtain rfl := hw.symm)
  | (go_at_call 166; have _t := tok2; clear tok2; refine (HN2.out _).mono ?_; rintro e w1 ⟨rfl, hw⟩; obtain rfl := hw.symm))
 obtain ⟨V, hV⟩ : ∃ V, w.alloc (.cells #[.int .i64 (nearP (l * s)), .int .i64 (nearP (l * c))] 48) = V := ⟨_, rfl⟩
 have hb : Below w.heap.size w V := by rw [← hV]; exact (Below.refl _ _).alloc (Nat.le_refl _) _
 have r := (show V.heap[w.heap.size]? = some (.cells #[.int .i64 (nearP (l * s)), .int .i64 (nearP (l * c))] 48 (0, 0)) by rw [← hV]; exact heap_alloc_new _ _)
 have r0 := cell_of_row V _ 0 _ 48 (0, 0) r
 have r1 := cell_of_row V _ 1 _ 48 (0, 0) r
 rw [hV]
 refine bodyPost_ret (v := .tuple #[.agg #[.int .i64 (nearP (l * s)), .int .i64 (nearP (l * c))], .int .i64 0]) ?_ rfl ⟨_, _, _, rfl, HNb.out.1, HNb.out.2, HNc.out.1, HNc.out.2, hb⟩
 simp at r0 r1
 simp [results, Tryz.results119, go_sem, r0, r1]
end Go.Proofs.YtaebebpldkciiaaGreatDoor
namespace Go.Proofs.YtaebebpldkciiaaGreatDoor
open Go.RowKit
set_option maxRecDepth 100000 in
theorem Add_any (a b c d : Int) (w : World) (h1 : Bd 1000000000 a) (h2 : Bd 1000000000 b) (h3 : Bd 1000000000 c) (h4 : Bd 1000000000 d) : Calls Tryz.prog 120 #[.agg #[.int .i64 a, .int .i64 b], .agg #[.int .i64 c, .int .i64 d]] w fun e w' => e = .returned (.agg #[.int .i64 (a + c), .int .i64 (b + d)]) ∧ Below w.heap.size w w' := by
 have e1 : IntKind.i64.wrap (a + c) = a + c := IntWalk.i64_in _ (by obtain ⟨_, _⟩ := h1; obtain ⟨_, _⟩ := h3; omega)
 have e2 : IntKind.i64.wrap (b + d) = b + d := IntWalk.i64_in _ (by obtain ⟨_, _⟩ := h2; obtain ⟨_, _⟩ := h4; omega)
 clear h1 h2 h3 h4
 go_enter Tryz.func120, Tryz.ntmps120
 go_wp2
 refine bodyPost_ret (results_cell_row rfl _ _ (w.heap.size + 1 + 1) 48 #[.int .i64 (a + c), .int .i64 (b + d)] (0, 0) _ rfl ?_ Tryz.underlying48 rfl (by kernel_rfl)) rfl ⟨rfl, ?_⟩
 ·rw [show w.heap.size + 1 + 1 = ((w.alloc (.cells #[.int .i64 a, .int .i64 b] 48)).alloc (.cells #[.int .i64 c, .int .i64 d] 48)).heap.size by rw [size_al, size_al]]
  exact heap_alloc_new _ _
 ·exact (((Below.refl _ _).alloc (Nat.le_refl _) _).alloc (by simp) _).alloc (by simp; omega) _
set_option maxRecDepth 100000 in
theorem Between_any (n : Int) (w : World) : Calls Tryz.prog 122 #[.int .i64 n, .int .i64 0, .int .i64 60000] w fun e w' => e = .returned (.int .i64 (if n < 0 then 0 else if 60000 < n then 60000 else n)) ∧ w' = w := by
 by_cases h1 : n < 0
 ·rw [if_pos h1]
  go_enter Tryz.func122, Tryz.ntmps122
  go_wp2
  go_ret
  exact ⟨rfl, rfl⟩
 rw [if_neg h1]
 by_cases h2 : 60000 < n
 ·rw [if_pos h2]
  go_enter Tryz.func122, Tryz.ntmps122
  go_wp2
  go_ret
  exact ⟨rfl, rfl⟩
 rw [if_neg h2]
 go_enter Tryz.func122, Tryz.ntmps122
 go_wp2
 go_ret
 exact ⟨rfl, rfl⟩
set_option maxRecDepth 100000 in
theorem Within_any (a b c d r : Int) (w : World) (h1 : Bd 1000000 a) (h2 : Bd 1000000 b) (h3 : Bd 1000000 c) (h4 : Bd 1000000 d) (hr0 : 0 ≤ r) (hr1 : r ≤ 1000000) : Calls Tryz.prog 121 #[.agg #[.int .i64 a, .int .i64 b], .agg #[.int .i64 c, .int .i64 d], .int .i64 r] w fun e w' => e = .returned (.bool (decide (sqI a b c d ≤ r * r))) ∧ Below w.heap.size w w' := by
 have HS := Lib.hid (fun W => Square_any a b c d W h1 h2 h3 h4)
 have e1 : IntKind.i64.wrap (r * r) = r * r := IntWalk.i64_in _ (by
  have k1 : r * r ≤ 1000000 * r := Int.mul_le_mul_of_nonneg_right hr1 hr0
  have k2 : 0 ≤ r * r := Int.mul_nonneg hr0 hr0
  omega)
 have e2 : r ≤ 8000000 := by omega
 generalize sqI a b c d = q at HS
 clear h1 h2 h3 h4 hr1
 go_enter Tryz.func121, Tryz.ntmps121
 go_wp2_with (go_at_call 75; go_loud (refine (HS.out _).mono ?_; rintro e w1 ⟨rfl, hb1⟩; have HB1 := Lib.hid ((((Below.refl _ w).alloc (Nat.le_refl _) _).alloc (by simp) _).trans (hb1.mono (by simp; omega))); clear hb1))
 go_ret
 exact ⟨rfl, HB1.out⟩
end Go.Proofs.YtaebebpldkciiaaGreatDoor
