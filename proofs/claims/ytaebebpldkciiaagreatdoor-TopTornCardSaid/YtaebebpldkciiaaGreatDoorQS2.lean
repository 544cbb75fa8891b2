/- The sine of package math: its steps as words of doubles; the walk. -/
import Derived.Test.YtaebebpldkciiaaGreatDoorQS0
namespace Go.Proofs.YtaebebpldkciiaaGreatDoor
open Go.RowKit
def fb (op : BinOp) (a b : Nat) : Option Nat := floatBits op .f64 a b
def cosQ (zz : Nat) : Option Nat :=
 (fb .mul 4602678819172646912 zz).bind fun h =>
 (fb .sub 4607182418800017408 h).bind fun u =>
 (fb .mul zz zz).bind fun q =>
 (fb .mul 13666448263388469915 zz).bind fun a0 =>
 (fb .add a0 4477121864728985349).bind fun b1 =>
 (fb .mul b1 zz).bind fun a1 =>
 (fb .add a1 13732177093698800582).bind fun b2 =>
 (fb .mul b2 zz).bind fun a2 =>
 (fb .add a2 4537941361668146421).bind fun b3 =>
 (fb .mul b3 zz).bind fun a3 =>
 (fb .add a3 13787419979223748497).bind fun b4 =>
 (fb .mul b4 zz).bind fun a4 =>
 (fb .add a4 4586165620538955083).bind fun b5 =>
 (fb .mul q b5).bind fun v =>
 fb .add u v
def sinQ (z zz : Nat) : Option Nat :=
 (fb .mul z zz).bind fun q =>
 (fb .mul 4460209587652500685 zz).bind fun a0 =>
 (fb .add a0 13716528389658582877).bind fun b1 =>
 (fb .mul b1 zz).bind fun a1 =>
 (fb .add a1 4523617212962785441).bind fun b2 =>
 (fb .mul b2 zz).bind fun a2 =>
 (fb .add a2 13774824197404483331).bind fun b3 =>
 (fb .mul b3 zz).bind fun a3 =>
 (fb .add a3 4575957461383575504).bind fun b4 =>
 (fb .mul b4 zz).bind fun a4 =>
 (fb .add a4 13818544856648471880).bind fun b5 =>
 (fb .mul q b5).bind fun v =>
 fb .add z v
def sgnW (b : Bool) (r : Nat) : Nat := if b = true then Op.negFloat .f64 r else r
def sinT (j : Int) (z zz : Nat) : Option Nat := if j = 1 ∨ j = 2 then cosQ zz else sinQ z zz
def sinZ (x : Nat) (j : Int) (y : Nat) : Option Nat :=
 (fb .mul y 4605249456957292544).bind fun a =>
 (fb .sub x a).bind fun b =>
 (fb .mul y 4495793288086814720).bind fun c =>
 (fb .sub b c).bind fun d =>
 (fb .mul y 4388835458085048688).bind fun e =>
 (fb .sub d e).bind fun z =>
 (fb .mul z z).bind fun zz =>
 if 3 < j then (sinT (j - 4) z zz).map (sgnW true) else sinT j z zz
def sinJ (x : Nat) (j : Int) : Option Nat :=
 if bits .and .u64 j 1 = 1 then (fb .add (floatOfInt .f64 j) 4607182418800017408).bind fun y => sinZ x (bits .and .u64 (j + 1) 7) y
 else sinZ x (bits .and .u64 j 7) (floatOfInt .f64 j)
def absW (x : Nat) : Nat := (bits .andNot .u64 (x : Int) 9223372036854775808).toNat
def ordW (x y : Nat) : Option Ordering := FloatKind.f64.format.order x y
def sinW (x : Nat) : Option Nat :=
 if (ordW x 0 == some .eq) = true then some x
 else if (ordW x x != some .eq) = true ∨ (ordW (absW x) 9218868437227405311 == some .gt) = true ∨ (ordW x 0 == some .lt) = true ∨ (ordW x 4737786807993761792 == some .gt || ordW x 4737786807993761792 == some .eq) = true then none
 else (fb .mul x 4608412980311869571).bind fun m => (floatToIntVal .f64 m .u64).bind fun j => if j < 100 then sinJ x j else none
structure TabAt (W : World) : Prop where
 c0 : W.cell? ⟨8, 0, none⟩ = some (.float .f64 13666448263388469915)
 c1 : W.cell? ⟨8, 1, none⟩ = some (.float .f64 4477121864728985349)
 c2 : W.cell? ⟨8, 2, none⟩ = some (.float .f64 13732177093698800582)
 c3 : W.cell? ⟨8, 3, none⟩ = some (.float .f64 4537941361668146421)
 c4 : W.cell? ⟨8, 4, none⟩ = some (.float .f64 13787419979223748497)
 c5 : W.cell? ⟨8, 5, none⟩ = some (.float .f64 4586165620538955083)
 s0 : W.cell? ⟨9, 0, none⟩ = some (.float .f64 4460209587652500685)
 s1 : W.cell? ⟨9, 1, none⟩ = some (.float .f64 13716528389658582877)
 s2 : W.cell? ⟨9, 2, none⟩ = some (.float .f64 4523617212962785441)
 s3 : W.cell? ⟨9, 3, none⟩ = some (.float .f64 13774824197404483331)
 s4 : W.cell? ⟨9, 4, none⟩ = some (.float .f64 4575957461383575504)
 s5 : W.cell? ⟨9, 5, none⟩ = some (.float .f64 13818544856648471880)
 l : 12 < W.heap.size
theorem TabAt.below {W W' : World} (h : TabAt W) (hb : Below W.heap.size W W') : TabAt W' := by
 have k : ∀ b i u, b < 12 → W.cell? ⟨b, i, none⟩ = some u → W'.cell? ⟨b, i, none⟩ = some u := fun b i u h1 h2 => (hb.cell (p := ⟨b, i, none⟩) (show b < W.heap.size by have := h.l; omega)).trans h2
 exact ⟨k 8 0 _ (by decide) h.c0, k 8 1 _ (by decide) h.c1, k 8 2 _ (by decide) h.c2, k 8 3 _ (by decide) h.c3, k 8 4 _ (by decide) h.c4, k 8 5 _ (by decide) h.c5, k 9 0 _ (by decide) h.s0, k 9 1 _ (by decide) h.s1, k 9 2 _ (by decide) h.s2, k 9 3 _ (by decide) h.s3, k 9 4 _ (by decide) h.s4, k 9 5 _ (by decide) h.s5, Nat.lt_of_lt_of_le h.l hb.size⟩
theorem fb_run {op : BinOp} {a b r : Nat} (h : fb op a b = some r) (W : World) : (binOp op 254 (.float .f64 a) (.float .f64 b)).run Tryz.prog W = .ok (.float .f64 r) W := run_float_arith W op 254 .f64 a b r h
theorem ext222i (n : Int) (w : World) : (callFunc 222 #[.int .u64 n]).run Tryz.prog w = .ok (.value (.float .f64 n.toNat)) w := by
 rw [run_callFunc_extern Tryz.func222 (by kernel_rfl) (by kernel_rfl) (by kernel_rfl) (e := Extern.MathFloatBits.float64frombits) (by kernel_rfl)]
 rfl
set_option maxRecDepth 100000 in
theorem IsNaN_any (x : Nat) (w : World) : Calls Tryz.prog 235 #[.float .f64 x] w fun e w' => e = .returned (.bool (ordW x x != some .eq)) ∧ w' = w := by
 go_enter Tryz.func235, Tryz.ntmps235
 go_wp2
 go_ret
 exact ⟨rfl, rfl⟩
set_option maxRecDepth 100000 in
theorem Abs_any (x : Nat) (w : World) : Calls Tryz.prog 242 #[.float .f64 x] w fun e w' => e = .returned (.float .f64 (absW x)) ∧ w' = w := by
 have X1 := ext221 x w
 have X2 := ext222i (bits .andNot .u64 (x : Int) 9223372036854775808) w
 go_enter Tryz.func242, Tryz.ntmps242
 go_wp2
 go_ret
 exact ⟨rfl, rfl⟩
set_option maxRecDepth 100000 in
theorem IsInf_any (x : Nat) (w : World) : Calls Tryz.prog 236 #[.float .f64 x, .int .i64 0] w fun e w' => e = .returned (.bool (ordW (absW x) 9218868437227405311 == some .gt)) ∧ w' = w := by
 go_enter Tryz.func236, Tryz.ntmps236
 go_wp2_with (go_at_call 242; refine (Abs_any x w).mono ?_; rintro e w1 ⟨rfl, hw1⟩; obtain rfl := hw1.symm)
 go_ret
 exact ⟨rfl, rfl⟩
set_option maxRecDepth 100000 in
set_option maxHeartbeats 4000000 in
theorem sin_any (x r : Nat) (h : sinW x = some r) (w : World) (ht : TabAt w) : Calls Tryz.prog 224 #[.float .f64 x] w fun e w' => e = .returned (.float .f64 r) ∧ w' = w := by
 have HT := Lib.hid ht
 have C1 := IsNaN_any x w
 have C2 := IsInf_any x w
 unfold sinW at h
 by_cases h0 : (ordW x 0 == some .eq) = true
 ·rw [if_pos h0] at h
  injection h with h
  subst h
  unfold ordW at h0
  clear ht C1 C2
  go_enter Tryz.func224, Tryz.ntmps224
  go_wp2
  go_ret
  exact ⟨rfl, rfl⟩
 rw [if_neg h0] at h
 by_cases h1 : (ordW x x != some .eq) = true ∨ (ordW (absW x) 9218868437227405311 == some .gt) = true ∨ (ordW x 0 == some .lt) = true ∨ (ordW x 4737786807993761792 == some .gt || ordW x 4737786807993761792 == some .eq) = true
 ·rw [if_pos h1] at h; cases h
 rw [if_neg h1] at h
 simp only [not_or, Bool.not_eq_true] at h0 h1
 obtain ⟨o1, o2, o3, o4⟩ := h1
 rw [o1] at C1
 rw [o2] at C2
 have hx := Option.bind_eq_some_iff.1 h; clear h; obtain ⟨m, h_m, h⟩ := hx
 have hx := Option.bind_eq_some_iff.1 h; clear h; obtain ⟨j, h_j, h⟩ := hx
 by_cases hj : j < 100
 case neg => rw [if_neg hj] at h; cases h
 rw [if_pos hj] at h
 have hj0 : 0 ≤ j := by
  unfold floatToIntVal at h_j
  split at h_j
  ·split at h_j
   ·rename_i hb; injection h_j with h_j; subst h_j; exact hb.1
   ·cases h_j
  ·cases h_j
 have F_m := fun W => fb_run h_m W
 have F_j := fun W : World => run_convert_float_int (P := Tryz.prog) W 254 160 .f64 .u64 m j (by kernel_rfl) (by kernel_rfl) h_j
 have F_y := fun W : World => run_convert_int_float (P := Tryz.prog) W 160 254 .u64 .f64 j (by kernel_rfl) (by kernel_rfl)
 clear h_m h_j
 have hw1 : IntKind.u64.wrap (j + 1) = j + 1 := IntWalk.u64_in _ (by omega)
 unfold sinJ at h
 generalize floatOfInt .f64 j = y0 at F_y h
 have hb0 := bits_within .and .u64 j 7
 have hb1 := bits_within .and .u64 (j + 1) 7
 unfold ordW at h0 o3 o4
 obtain ⟨T0, T1, T2, T3, T4, T5, U0, U1, U2, U3, U4, U5, _⟩ := ht
 by_cases p : bits .and .u64 j 1 = 1
 ·rw [if_pos p] at h
  have hx := Option.bind_eq_some_iff.1 h; clear h; obtain ⟨y, h_y, h⟩ := hx
  have p' : (bits .and .u64 j 1 == 1) = true := by simp [p]
  have F_y1 := fun W => fb_run h_y W
  clear h_y
  clear p
  unfold sinZ at h
  have hx := Option.bind_eq_some_iff.1 h; clear h; obtain ⟨a, h_a, h⟩ := hx
  have hx := Option.bind_eq_some_iff.1 h; clear h; obtain ⟨b, h_b, h⟩ := hx
  have hx := Option.bind_eq_some_iff.1 h; clear h; obtain ⟨c, h_c, h⟩ := hx
  have hx := Option.bind_eq_some_iff.1 h; clear h; obtain ⟨d, h_d, h⟩ := hx
  have hx := Option.bind_eq_some_iff.1 h; clear h; obtain ⟨e, h_e, h⟩ := hx
  have hx := Option.bind_eq_some_iff.1 h; clear h; obtain ⟨z, h_z, h⟩ := hx
  have hx := Option.bind_eq_some_iff.1 h; clear h; obtain ⟨zz, h_zz, h⟩ := hx
  have F_a := fun W => fb_run h_a W
  have F_b := fun W => fb_run h_b W
  have F_c := fun W => fb_run h_c W
  have F_d := fun W => fb_run h_d W
  have F_e := fun W => fb_run h_e W
  have F_z := fun W => fb_run h_z W
  have F_zz := fun W => fb_run h_zz W
  clear h_a h_b h_c h_d h_e h_z h_zz
  unfold sinT at h
  by_cases g : 3 < bits .and .u64 (j + 1) 7
  ·rw [if_pos g] at h
   rw [Option.map_eq_some_iff] at h
   obtain ⟨r0, h9, h8⟩ := h
   subst h8
   have h := h9
   clear h9
   unfold sgnW
   rw [if_pos rfl]
   have F_n := fun W : World => (show (Op.unary .neg (.float .f64 r0)).run Tryz.prog W = .ok (.float .f64 (Op.negFloat .f64 r0)) W from rfl)
   have hs : IntKind.u64.wrap (bits .and .u64 (j + 1) 7 - 4) = bits .and .u64 (j + 1) 7 - 4 := IntWalk.u64_in _ (by have := hb1.2; simp only [IntKind.max, IntKind.bits, IntKind.signed] at this; omega)
   by_cases k : bits .and .u64 (j + 1) 7 - 4 = 1 ∨ bits .and .u64 (j + 1) 7 - 4 = 2
   ·rw [if_pos k] at h
    unfold cosQ at h
    have hx := Option.bind_eq_some_iff.1 h; clear h; obtain ⟨h1, h_h1, h⟩ := hx
    have hx := Option.bind_eq_some_iff.1 h; clear h; obtain ⟨u, h_u, h⟩ := hx
    have hx := Option.bind_eq_some_iff.1 h; clear h; obtain ⟨q, h_q, h⟩ := hx
    have hx := Option.bind_eq_some_iff.1 h; clear h; obtain ⟨a0, h_a0, h⟩ := hx
    have hx := Option.bind_eq_some_iff.1 h; clear h; obtain ⟨b1, h_b1, h⟩ := hx
    have hx := Option.bind_eq_some_iff.1 h; clear h; obtain ⟨a1, h_a1, h⟩ := hx
    have hx := Option.bind_eq_some_iff.1 h; clear h; obtain ⟨b2, h_b2, h⟩ := hx
    have hx := Option.bind_eq_some_iff.1 h; clear h; obtain ⟨a2, h_a2, h⟩ := hx
    have hx := Option.bind_eq_some_iff.1 h; clear h; obtain ⟨b3, h_b3, h⟩ := hx
    have hx := Option.bind_eq_some_iff.1 h; clear h; obtain ⟨a3, h_a3, h⟩ := hx
    have hx := Option.bind_eq_some_iff.1 h; clear h; obtain ⟨b4, h_b4, h⟩ := hx
    have hx := Option.bind_eq_some_iff.1 h; clear h; obtain ⟨a4, h_a4, h⟩ := hx
    have hx := Option.bind_eq_some_iff.1 h; clear h; obtain ⟨b5, h_b5, h⟩ := hx
    have hx := Option.bind_eq_some_iff.1 h; clear h; obtain ⟨v, h_v, h⟩ := hx
    have F_h1 := fun W => fb_run h_h1 W
    have F_u := fun W => fb_run h_u W
    have F_q := fun W => fb_run h_q W
    have F_a0 := fun W => fb_run h_a0 W
    have F_b1 := fun W => fb_run h_b1 W
    have F_a1 := fun W => fb_run h_a1 W
    have F_b2 := fun W => fb_run h_b2 W
    have F_a2 := fun W => fb_run h_a2 W
    have F_b3 := fun W => fb_run h_b3 W
    have F_a3 := fun W => fb_run h_a3 W
    have F_b4 := fun W => fb_run h_b4 W
    have F_a4 := fun W => fb_run h_a4 W
    have F_b5 := fun W => fb_run h_b5 W
    have F_v := fun W => fb_run h_v W
    clear h_h1 h_u h_q h_a0 h_b1 h_a1 h_b2 h_a2 h_b3 h_a3 h_b4 h_a4 h_b5 h_v
    have F_r := fun W => fb_run h W
    rcases k with k | k
    ·have k1 : (bits .and .u64 (j + 1) 7 - 4 == 1) = true := by simp [k]
     clear k h
     go_enter Tryz.func224, Tryz.ntmps224
     (clear hb0 hb1 hj hj0)
     go_wp2_with (first
      | (go_at_call 235; refine C1.mono ?_; rintro e w1 ⟨rfl, hw⟩; obtain rfl := hw.symm)
      | (go_at_call 236; refine C2.mono ?_; rintro e w1 ⟨rfl, hw⟩; obtain rfl := hw.symm))
     go_ret
     exact ⟨rfl, rfl⟩
    ·have k1 : (bits .and .u64 (j + 1) 7 - 4 == 1) = false := by simp [k]
     have k2 : (bits .and .u64 (j + 1) 7 - 4 == 2) = true := by simp [k]
     clear k h
     go_enter Tryz.func224, Tryz.ntmps224
     (clear hb0 hb1 hj hj0)
     go_wp2_with (first
      | (go_at_call 235; refine C1.mono ?_; rintro e w1 ⟨rfl, hw⟩; obtain rfl := hw.symm)
      | (go_at_call 236; refine C2.mono ?_; rintro e w1 ⟨rfl, hw⟩; obtain rfl := hw.symm))
     go_ret
     exact ⟨rfl, rfl⟩
   ·rw [if_neg k] at h
    unfold sinQ at h
    have hx := Option.bind_eq_some_iff.1 h; clear h; obtain ⟨q, h_q, h⟩ := hx
    have hx := Option.bind_eq_some_iff.1 h; clear h; obtain ⟨a0, h_a0, h⟩ := hx
    have hx := Option.bind_eq_some_iff.1 h; clear h; obtain ⟨b1, h_b1, h⟩ := hx
    have hx := Option.bind_eq_some_iff.1 h; clear h; obtain ⟨a1, h_a1, h⟩ := hx
    have hx := Option.bind_eq_some_iff.1 h; clear h; obtain ⟨b2, h_b2, h⟩ := hx
    have hx := Option.bind_eq_some_iff.1 h; clear h; obtain ⟨a2, h_a2, h⟩ := hx
    have hx := Option.bind_eq_some_iff.1 h; clear h; obtain ⟨b3, h_b3, h⟩ := hx
    have hx := Option.bind_eq_some_iff.1 h; clear h; obtain ⟨a3, h_a3, h⟩ := hx
    have hx := Option.bind_eq_some_iff.1 h; clear h; obtain ⟨b4, h_b4, h⟩ := hx
    have hx := Option.bind_eq_some_iff.1 h; clear h; obtain ⟨a4, h_a4, h⟩ := hx
    have hx := Option.bind_eq_some_iff.1 h; clear h; obtain ⟨b5, h_b5, h⟩ := hx
    have hx := Option.bind_eq_some_iff.1 h; clear h; obtain ⟨v, h_v, h⟩ := hx
    have F_q := fun W => fb_run h_q W
    have F_a0 := fun W => fb_run h_a0 W
    have F_b1 := fun W => fb_run h_b1 W
    have F_a1 := fun W => fb_run h_a1 W
    have F_b2 := fun W => fb_run h_b2 W
    have F_a2 := fun W => fb_run h_a2 W
    have F_b3 := fun W => fb_run h_b3 W
    have F_a3 := fun W => fb_run h_a3 W
    have F_b4 := fun W => fb_run h_b4 W
    have F_a4 := fun W => fb_run h_a4 W
    have F_b5 := fun W => fb_run h_b5 W
    have F_v := fun W => fb_run h_v W
    clear h_q h_a0 h_b1 h_a1 h_b2 h_a2 h_b3 h_a3 h_b4 h_a4 h_b5 h_v
    have F_r := fun W => fb_run h W
    have k1 : (bits .and .u64 (j + 1) 7 - 4 == 1) = false := by simp; omega
    have k2 : (bits .and .u64 (j + 1) 7 - 4 == 2) = false := by simp; omega
    clear k h
    go_enter Tryz.func224, Tryz.ntmps224
    (clear hb0 hb1 hj hj0)
    go_wp2_with (first
     | (go_at_call 235; refine C1.mono ?_; rintro e w1 ⟨rfl, hw⟩; obtain rfl := hw.symm)
     | (go_at_call 236; refine C2.mono ?_; rintro e w1 ⟨rfl, hw⟩; obtain rfl := hw.symm))
    go_ret
    exact ⟨rfl, rfl⟩
  ·rw [if_neg g] at h
   by_cases k : bits .and .u64 (j + 1) 7 = 1 ∨ bits .and .u64 (j + 1) 7 = 2
   ·rw [if_pos k] at h
    unfold cosQ at h
    have hx := Option.bind_eq_some_iff.1 h; clear h; obtain ⟨h1, h_h1, h⟩ := hx
    have hx := Option.bind_eq_some_iff.1 h; clear h; obtain ⟨u, h_u, h⟩ := hx
    have hx := Option.bind_eq_some_iff.1 h; clear h; obtain ⟨q, h_q, h⟩ := hx
    have hx := Option.bind_eq_some_iff.1 h; clear h; obtain ⟨a0, h_a0, h⟩ := hx
    have hx := Option.bind_eq_some_iff.1 h; clear h; obtain ⟨b1, h_b1, h⟩ := hx
    have hx := Option.bind_eq_some_iff.1 h; clear h; obtain ⟨a1, h_a1, h⟩ := hx
    have hx := Option.bind_eq_some_iff.1 h; clear h; obtain ⟨b2, h_b2, h⟩ := hx
    have hx := Option.bind_eq_some_iff.1 h; clear h; obtain ⟨a2, h_a2, h⟩ := hx
    have hx := Option.bind_eq_some_iff.1 h; clear h; obtain ⟨b3, h_b3, h⟩ := hx
    have hx := Option.bind_eq_some_iff.1 h; clear h; obtain ⟨a3, h_a3, h⟩ := hx
    have hx := Option.bind_eq_some_iff.1 h; clear h; obtain ⟨b4, h_b4, h⟩ := hx
    have hx := Option.bind_eq_some_iff.1 h; clear h; obtain ⟨a4, h_a4, h⟩ := hx
    have hx := Option.bind_eq_some_iff.1 h; clear h; obtain ⟨b5, h_b5, h⟩ := hx
    have hx := Option.bind_eq_some_iff.1 h; clear h; obtain ⟨v, h_v, h⟩ := hx
    have F_h1 := fun W => fb_run h_h1 W
    have F_u := fun W => fb_run h_u W
    have F_q := fun W => fb_run h_q W
    have F_a0 := fun W => fb_run h_a0 W
    have F_b1 := fun W => fb_run h_b1 W
    have F_a1 := fun W => fb_run h_a1 W
    have F_b2 := fun W => fb_run h_b2 W
    have F_a2 := fun W => fb_run h_a2 W
    have F_b3 := fun W => fb_run h_b3 W
    have F_a3 := fun W => fb_run h_a3 W
    have F_b4 := fun W => fb_run h_b4 W
    have F_a4 := fun W => fb_run h_a4 W
    have F_b5 := fun W => fb_run h_b5 W
    have F_v := fun W => fb_run h_v W
    clear h_h1 h_u h_q h_a0 h_b1 h_a1 h_b2 h_a2 h_b3 h_a3 h_b4 h_a4 h_b5 h_v
    have F_r := fun W => fb_run h W
    rcases k with k | k
    ·have k1 : (bits .and .u64 (j + 1) 7 == 1) = true := by simp [k]
     clear k h
     go_enter Tryz.func224, Tryz.ntmps224
     (clear hb0 hb1 hj hj0)
     go_wp2_with (first
      | (go_at_call 235; refine C1.mono ?_; rintro e w1 ⟨rfl, hw⟩; obtain rfl := hw.symm)
      | (go_at_call 236; refine C2.mono ?_; rintro e w1 ⟨rfl, hw⟩; obtain rfl := hw.symm))
     go_ret
     exact ⟨rfl, rfl⟩
    ·have k1 : (bits .and .u64 (j + 1) 7 == 1) = false := by simp [k]
     have k2 : (bits .and .u64 (j + 1) 7 == 2) = true := by simp [k]
     clear k h
     go_enter Tryz.func224, Tryz.ntmps224
     (clear hb0 hb1 hj hj0)
     go_wp2_with (first
      | (go_at_call 235; refine C1.mono ?_; rintro e w1 ⟨rfl, hw⟩; obtain rfl := hw.symm)
      | (go_at_call 236; refine C2.mono ?_; rintro e w1 ⟨rfl, hw⟩; obtain rfl := hw.symm))
     go_ret
     exact ⟨rfl, rfl⟩
   ·rw [if_neg k] at h
    unfold sinQ at h
    have hx := Option.bind_eq_some_iff.1 h; clear h; obtain ⟨q, h_q, h⟩ := hx
    have hx := Option.bind_eq_some_iff.1 h; clear h; obtain ⟨a0, h_a0, h⟩ := hx
    have hx := Option.bind_eq_some_iff.1 h; clear h; obtain ⟨b1, h_b1, h⟩ := hx
    have hx := Option.bind_eq_some_iff.1 h; clear h; obtain ⟨a1, h_a1, h⟩ := hx
    have hx := Option.bind_eq_some_iff.1 h; clear h; obtain ⟨b2, h_b2, h⟩ := hx
    have hx := Option.bind_eq_some_iff.1 h; clear h; obtain ⟨a2, h_a2, h⟩ := hx
    have hx := Option.bind_eq_some_iff.1 h; clear h; obtain ⟨b3, h_b3, h⟩ := hx
    have hx := Option.bind_eq_some_iff.1 h; clear h; obtain ⟨a3, h_a3, h⟩ := hx
    have hx := Option.bind_eq_some_iff.1 h; clear h; obtain ⟨b4, h_b4, h⟩ := hx
    have hx := Option.bind_eq_some_iff.1 h; clear h; obtain ⟨a4, h_a4, h⟩ := hx
    have hx := Option.bind_eq_some_iff.1 h; clear h; obtain ⟨b5, h_b5, h⟩ := hx
    have hx := Option.bind_eq_some_iff.1 h; clear h; obtain ⟨v, h_v, h⟩ := hx
    have F_q := fun W => fb_run h_q W
    have F_a0 := fun W => fb_run h_a0 W
    have F_b1 := fun W => fb_run h_b1 W
    have F_a1 := fun W => fb_run h_a1 W
    have F_b2 := fun W => fb_run h_b2 W
    have F_a2 := fun W => fb_run h_a2 W
    have F_b3 := fun W => fb_run h_b3 W
    have F_a3 := fun W => fb_run h_a3 W
    have F_b4 := fun W => fb_run h_b4 W
    have F_a4 := fun W => fb_run h_a4 W
    have F_b5 := fun W => fb_run h_b5 W
    have F_v := fun W => fb_run h_v W
    clear h_q h_a0 h_b1 h_a1 h_b2 h_a2 h_b3 h_a3 h_b4 h_a4 h_b5 h_v
    have F_r := fun W => fb_run h W
    have k1 : (bits .and .u64 (j + 1) 7 == 1) = false := by simp; omega
    have k2 : (bits .and .u64 (j + 1) 7 == 2) = false := by simp; omega
    clear k h
    go_enter Tryz.func224, Tryz.ntmps224
    (clear hb0 hb1 hj hj0)
    go_wp2_with (first
     | (go_at_call 235; refine C1.mono ?_; rintro e w1 ⟨rfl, hw⟩; obtain rfl := hw.symm)
     | (go_at_call 236; refine C2.mono ?_; rintro e w1 ⟨rfl, hw⟩; obtain rfl := hw.symm))
    go_ret
    exact ⟨rfl, rfl⟩
 ·rw [if_neg p] at h
  have p' : (bits .and .u64 j 1 == 1) = false := by simp [p]
  clear p
  unfold sinZ at h
  have hx := Option.bind_eq_some_iff.1 h; clear h; obtain ⟨a, h_a, h⟩ := hx
  have hx := Option.bind_eq_some_iff.1 h; clear h; obtain ⟨b, h_b, h⟩ := hx
  have hx := Option.bind_eq_some_iff.1 h; clear h; obtain ⟨c, h_c, h⟩ := hx
  have hx := Option.bind_eq_some_iff.1 h; clear h; obtain ⟨d, h_d, h⟩ := hx
  have hx := Option.bind_eq_some_iff.1 h; clear h; obtain ⟨e, h_e, h⟩ := hx
  have hx := Option.bind_eq_some_iff.1 h; clear h; obtain ⟨z, h_z, h⟩ := hx
  have hx := Option.bind_eq_some_iff.1 h; clear h; obtain ⟨zz, h_zz, h⟩ := hx
  have F_a := fun W => fb_run h_a W
  have F_b := fun W => fb_run h_b W
  have F_c := fun W => fb_run h_c W
  have F_d := fun W => fb_run h_d W
  have F_e := fun W => fb_run h_e W
  have F_z := fun W => fb_run h_z W
  have F_zz := fun W => fb_run h_zz W
  clear h_a h_b h_c h_d h_e h_z h_zz
  unfold sinT at h
  by_cases g : 3 < bits .and .u64 j 7
  ·rw [if_pos g] at h
   rw [Option.map_eq_some_iff] at h
   obtain ⟨r0, h9, h8⟩ := h
   subst h8
   have h := h9
   clear h9
   unfold sgnW
   rw [if_pos rfl]
   have F_n := fun W : World => (show (Op.unary .neg (.float .f64 r0)).run Tryz.prog W = .ok (.float .f64 (Op.negFloat .f64 r0)) W from rfl)
   have hs : IntKind.u64.wrap (bits .and .u64 j 7 - 4) = bits .and .u64 j 7 - 4 := IntWalk.u64_in _ (by have := hb0.2; simp only [IntKind.max, IntKind.bits, IntKind.signed] at this; omega)
   by_cases k : bits .and .u64 j 7 - 4 = 1 ∨ bits .and .u64 j 7 - 4 = 2
   ·rw [if_pos k] at h
    unfold cosQ at h
    have hx := Option.bind_eq_some_iff.1 h; clear h; obtain ⟨h1, h_h1, h⟩ := hx
    have hx := Option.bind_eq_some_iff.1 h; clear h; obtain ⟨u, h_u, h⟩ := hx
    have hx := Option.bind_eq_some_iff.1 h; clear h; obtain ⟨q, h_q, h⟩ := hx
    have hx := Option.bind_eq_some_iff.1 h; clear h; obtain ⟨a0, h_a0, h⟩ := hx
    have hx := Option.bind_eq_some_iff.1 h; clear h; obtain ⟨b1, h_b1, h⟩ := hx
    have hx := Option.bind_eq_some_iff.1 h; clear h; obtain ⟨a1, h_a1, h⟩ := hx
    have hx := Option.bind_eq_some_iff.1 h; clear h; obtain ⟨b2, h_b2, h⟩ := hx
    have hx := Option.bind_eq_some_iff.1 h; clear h; obtain ⟨a2, h_a2, h⟩ := hx
    have hx := Option.bind_eq_some_iff.1 h; clear h; obtain ⟨b3, h_b3, h⟩ := hx
    have hx := Option.bind_eq_some_iff.1 h; clear h; obtain ⟨a3, h_a3, h⟩ := hx
    have hx := Option.bind_eq_some_iff.1 h; clear h; obtain ⟨b4, h_b4, h⟩ := hx
    have hx := Option.bind_eq_some_iff.1 h; clear h; obtain ⟨a4, h_a4, h⟩ := hx
    have hx := Option.bind_eq_some_iff.1 h; clear h; obtain ⟨b5, h_b5, h⟩ := hx
    have hx := Option.bind_eq_some_iff.1 h; clear h; obtain ⟨v, h_v, h⟩ := hx
    have F_h1 := fun W => fb_run h_h1 W
    have F_u := fun W => fb_run h_u W
    have F_q := fun W => fb_run h_q W
    have F_a0 := fun W => fb_run h_a0 W
    have F_b1 := fun W => fb_run h_b1 W
    have F_a1 := fun W => fb_run h_a1 W
    have F_b2 := fun W => fb_run h_b2 W
    have F_a2 := fun W => fb_run h_a2 W
    have F_b3 := fun W => fb_run h_b3 W
    have F_a3 := fun W => fb_run h_a3 W
    have F_b4 := fun W => fb_run h_b4 W
    have F_a4 := fun W => fb_run h_a4 W
    have F_b5 := fun W => fb_run h_b5 W
    have F_v := fun W => fb_run h_v W
    clear h_h1 h_u h_q h_a0 h_b1 h_a1 h_b2 h_a2 h_b3 h_a3 h_b4 h_a4 h_b5 h_v
    have F_r := fun W => fb_run h W
    rcases k with k | k
    ·have k1 : (bits .and .u64 j 7 - 4 == 1) = true := by simp [k]
     clear k h
     go_enter Tryz.func224, Tryz.ntmps224
     (clear hb0 hb1 hj hj0)
     go_wp2_with (first
      | (go_at_call 235; refine C1.mono ?_; rintro e w1 ⟨rfl, hw⟩; obtain rfl := hw.symm)
      | (go_at_call 236; refine C2.mono ?_; rintro e w1 ⟨rfl, hw⟩; obtain rfl := hw.symm))
     go_ret
     exact ⟨rfl, rfl⟩
    ·have k1 : (bits .and .u64 j 7 - 4 == 1) = false := by simp [k]
     have k2 : (bits .and .u64 j 7 - 4 == 2) = true := by simp [k]
     clear k h
     go_enter Tryz.func224, Tryz.ntmps224
     (clear hb0 hb1 hj hj0)
     go_wp2_with (first
      | (go_at_call 235; refine C1.mono ?_; rintro e w1 ⟨rfl, hw⟩; obtain rfl := hw.symm)
      | (go_at_call 236; refine C2.mono ?_; rintro e w1 ⟨rfl, hw⟩; obtain rfl := hw.symm))
     go_ret
     exact ⟨rfl, rfl⟩
   ·rw [if_neg k] at h
    unfold sinQ at h
    have hx := Option.bind_eq_some_iff.1 h; clear h; obtain ⟨q, h_q, h⟩ := hx
    have hx := Option.bind_eq_some_iff.1 h; clear h; obtain ⟨a0, h_a0, h⟩ := hx
    have hx := Option.bind_eq_some_iff.1 h; clear h; obtain ⟨b1, h_b1, h⟩ := hx
    have hx := Option.bind_eq_some_iff.1 h; clear h; obtain ⟨a1, h_a1, h⟩ := hx
    have hx := Option.bind_eq_some_iff.1 h; clear h; obtain ⟨b2, h_b2, h⟩ := hx
    have hx := Option.bind_eq_some_iff.1 h; clear h; obtain ⟨a2, h_a2, h⟩ := hx
    have hx := Option.bind_eq_some_iff.1 h; clear h; obtain ⟨b3, h_b3, h⟩ := hx
    have hx := Option.bind_eq_some_iff.1 h; clear h; obtain ⟨a3, h_a3, h⟩ := hx
    have hx := Option.bind_eq_some_iff.1 h; clear h; obtain ⟨b4, h_b4, h⟩ := hx
    have hx := Option.bind_eq_some_iff.1 h; clear h; obtain ⟨a4, h_a4, h⟩ := hx
    have hx := Option.bind_eq_some_iff.1 h; clear h; obtain ⟨b5, h_b5, h⟩ := hx
    have hx := Option.bind_eq_some_iff.1 h; clear h; obtain ⟨v, h_v, h⟩ := hx
    have F_q := fun W => fb_run h_q W
    have F_a0 := fun W => fb_run h_a0 W
    have F_b1 := fun W => fb_run h_b1 W
    have F_a1 := fun W => fb_run h_a1 W
    have F_b2 := fun W => fb_run h_b2 W
    have F_a2 := fun W => fb_run h_a2 W
    have F_b3 := fun W => fb_run h_b3 W
    have F_a3 := fun W => fb_run h_a3 W
    have F_b4 := fun W => fb_run h_b4 W
    have F_a4 := fun W => fb_run h_a4 W
    have F_b5 := fun W => fb_run h_b5 W
    have F_v := fun W => fb_run h_v W
    clear h_q h_a0 h_b1 h_a1 h_b2 h_a2 h_b3 h_a3 h_b4 h_a4 h_b5 h_v
    have F_r := fun W => fb_run h W
    have k1 : (bits .and .u64 j 7 - 4 == 1) = false := by simp; omega
    have k2 : (bits .and .u64 j 7 - 4 == 2) = false := by simp; omega
    clear k h
    go_enter Tryz.func224, Tryz.ntmps224
    (clear hb0 hb1 hj hj0)
    go_wp2_with (first
     | (go_at_call 235; refine C1.mono ?_; rintro e w1 ⟨rfl, hw⟩; obtain rfl := hw.symm)
     | (go_at_call 236; refine C2.mono ?_; rintro e w1 ⟨rfl, hw⟩; obtain rfl := hw.symm))
    go_ret
    exact ⟨rfl, rfl⟩
  ·rw [if_neg g] at h
   by_cases k : bits .and .u64 j 7 = 1 ∨ bits .and .u64 j 7 = 2
   ·rw [if_pos k] at h
    unfold cosQ at h
    have hx := Option.bind_eq_some_iff.1 h; clear h; obtain ⟨h1, h_h1, h⟩ := hx
    have hx := Option.bind_eq_some_iff.1 h; clear h; obtain ⟨u, h_u, h⟩ := hx
    have hx := Option.bind_eq_some_iff.1 h; clear h; obtain ⟨q, h_q, h⟩ := hx
    have hx := Option.bind_eq_some_iff.1 h; clear h; obtain ⟨a0, h_a0, h⟩ := hx
    have hx := Option.bind_eq_some_iff.1 h; clear h; obtain ⟨b1, h_b1, h⟩ := hx
    have hx := Option.bind_eq_some_iff.1 h; clear h; obtain ⟨a1, h_a1, h⟩ := hx
    have hx := Option.bind_eq_some_iff.1 h; clear h; obtain ⟨b2, h_b2, h⟩ := hx
    have hx := Option.bind_eq_some_iff.1 h; clear h; obtain ⟨a2, h_a2, h⟩ := hx
    have hx := Option.bind_eq_some_iff.1 h; clear h; obtain ⟨b3, h_b3, h⟩ := hx
    have hx := Option.bind_eq_some_iff.1 h; clear h; obtain ⟨a3, h_a3, h⟩ := hx
    have hx := Option.bind_eq_some_iff.1 h; clear h; obtain ⟨b4, h_b4, h⟩ := hx
    have hx := Option.bind_eq_some_iff.1 h; clear h; obtain ⟨a4, h_a4, h⟩ := hx
    have hx := Option.bind_eq_some_iff.1 h; clear h; obtain ⟨b5, h_b5, h⟩ := hx
    have hx := Option.bind_eq_some_iff.1 h; clear h; obtain ⟨v, h_v, h⟩ := hx
    have F_h1 := fun W => fb_run h_h1 W
    have F_u := fun W => fb_run h_u W
    have F_q := fun W => fb_run h_q W
    have F_a0 := fun W => fb_run h_a0 W
    have F_b1 := fun W => fb_run h_b1 W
    have F_a1 := fun W => fb_run h_a1 W
    have F_b2 := fun W => fb_run h_b2 W
    have F_a2 := fun W => fb_run h_a2 W
    have F_b3 := fun W => fb_run h_b3 W
    have F_a3 := fun W => fb_run h_a3 W
    have F_b4 := fun W => fb_run h_b4 W
    have F_a4 := fun W => fb_run h_a4 W
    have F_b5 := fun W => fb_run h_b5 W
    have F_v := fun W => fb_run h_v W
    clear h_h1 h_u h_q h_a0 h_b1 h_a1 h_b2 h_a2 h_b3 h_a3 h_b4 h_a4 h_b5 h_v
    have F_r := fun W => fb_run h W
    rcases k with k | k
    ·have k1 : (bits .and .u64 j 7 == 1) = true := by simp [k]
     clear k h
     go_enter Tryz.func224, Tryz.ntmps224
     (clear hb0 hb1 hj hj0)
     go_wp2_with (first
      | (go_at_call 235; refine C1.mono ?_; rintro e w1 ⟨rfl, hw⟩; obtain rfl := hw.symm)
      | (go_at_call 236; refine C2.mono ?_; rintro e w1 ⟨rfl, hw⟩; obtain rfl := hw.symm))
     go_ret
     exact ⟨rfl, rfl⟩
    ·have k1 : (bits .and .u64 j 7 == 1) = false := by simp [k]
     have k2 : (bits .and .u64 j 7 == 2) = true := by simp [k]
     clear k h
     go_enter Tryz.func224, Tryz.ntmps224
     (clear hb0 hb1 hj hj0)
     go_wp2_with (first
      | (go_at_call 235; refine C1.mono ?_; rintro e w1 ⟨rfl, hw⟩; obtain rfl := hw.symm)
      | (go_at_call 236; refine C2.mono ?_; rintro e w1 ⟨rfl, hw⟩; obtain rfl := hw.symm))
     go_ret
     exact ⟨rfl, rfl⟩
   ·rw [if_neg k] at h
    unfold sinQ at h
    have hx := Option.bind_eq_some_iff.1 h; clear h; obtain ⟨q, h_q, h⟩ := hx
    have hx := Option.bind_eq_some_iff.1 h; clear h; obtain ⟨a0, h_a0, h⟩ := hx
    have hx := Option.bind_eq_some_iff.1 h; clear h; obtain ⟨b1, h_b1, h⟩ := hx
    have hx := Option.bind_eq_some_iff.1 h; clear h; obtain ⟨a1, h_a1, h⟩ := hx
    have hx := Option.bind_eq_some_iff.1 h; clear h; obtain ⟨b2, h_b2, h⟩ := hx
    have hx := Option.bind_eq_some_iff.1 h; clear h; obtain ⟨a2, h_a2, h⟩ := hx
    have hx := Option.bind_eq_some_iff.1 h; clear h; obtain ⟨b3, h_b3, h⟩ := hx
    have hx := Option.bind_eq_some_iff.1 h; clear h; obtain ⟨a3, h_a3, h⟩ := hx
    have hx := Option.bind_eq_some_iff.1 h; clear h; obtain ⟨b4, h_b4, h⟩ := hx
    have hx := Option.bind_eq_some_iff.1 h; clear h; obtain ⟨a4, h_a4, h⟩ := hx
    have hx := Option.bind_eq_some_iff.1 h; clear h; obtain ⟨b5, h_b5, h⟩ := hx
    have hx := Option.bind_eq_some_iff.1 h; clear h; obtain ⟨v, h_v, h⟩ := hx
    have F_q := fun W => fb_run h_q W
    have F_a0 := fun W => fb_run h_a0 W
    have F_b1 := fun W => fb_run h_b1 W
    have F_a1 := fun W => fb_run h_a1 W
    have F_b2 := fun W => fb_run h_b2 W
    have F_a2 := fun W => fb_run h_a2 W
    have F_b3 := fun W => fb_run h_b3 W
    have F_a3 := fun W => fb_run h_a3 W
    have F_b4 := fun W => fb_run h_b4 W
    have F_a4 := fun W => fb_run h_a4 W
    have F_b5 := fun W => fb_run h_b5 W
    have F_v := fun W => fb_run h_v W
    clear h_q h_a0 h_b1 h_a1 h_b2 h_a2 h_b3 h_a3 h_b4 h_a4 h_b5 h_v
    have F_r := fun W => fb_run h W
    have k1 : (bits .and .u64 j 7 == 1) = false := by simp; omega
    have k2 : (bits .and .u64 j 7 == 2) = false := by simp; omega
    clear k h
    go_enter Tryz.func224, Tryz.ntmps224
    (clear hb0 hb1 hj hj0)
    go_wp2_with (first
     | (go_at_call 235; refine C1.mono ?_; rintro e w1 ⟨rfl, hw⟩; obtain rfl := hw.symm)
     | (go_at_call 236; refine C2.mono ?_; rintro e w1 ⟨rfl, hw⟩; obtain rfl := hw.symm))
    go_ret
    exact ⟨rfl, rfl⟩
end Go.Proofs.YtaebebpldkciiaaGreatDoor
