/- Contracts and plain words, part 2: texts T2, Still, T3, BsfNd, T4, T5. -/
import Derived.Test.YtaebebpldkciiaaGreatDoorQG01
import Derived.StillTailTactics
import Derived.BigQuiet
import Derived.WalkKit
import Derived.Deep.Cut
import Derived.Deep.CutRange
import Derived.Lib.QuietBelow
namespace Go.Proofs.YtaebebpldkciiaaGreatDoor
section
open Go.RowKit
theorem dvd_of_tmod {a b : Int} (h : a.tmod b = 0) : b ∣ a := Int.dvd_of_tmod_eq_zero h
theorem tdiv_neg_yes {a b : Int} (hb : 0 < b) (h : a.tmod b = 0) : a.tdiv b = a / b := by
 obtain ⟨k, rfl⟩ := dvd_of_tmod h
 rw [Int.mul_tdiv_cancel_left _ (by omega), Int.mul_ediv_cancel_left _ (by omega)]
theorem tdiv_neg_no {a b : Int} (hb : 0 < b) (ha : a < 0) (h : a.tmod b ≠ 0) : a.tdiv b - 1 = a / b := by
 have h1 := Int.tmod_add_tdiv_mul a b
 have h2 := Int.emod_add_mul_ediv a b
 have h3 := Int.emod_nonneg a (show b ≠ 0 by omega)
 have h4 := Int.emod_lt_of_pos a hb
 have h5 : a.tmod b = a % b - b := by
  rw [Int.tmod_eq_emod]
  have hn : ¬ (0 ≤ a ∨ b ∣ a) := by
   rintro (h' | h')
   ·omega
   ·exact h (Int.tmod_eq_zero_of_dvd h')
  rw [if_neg hn]
  omega
 rw [h5] at h1
 have h6 : a.tdiv b * b = (a / b + 1) * b := by
  rw [Int.add_mul, Int.one_mul, Int.mul_comm (a / b) b]
  omega
 have := Int.eq_of_mul_eq_mul_right (show b ≠ 0 by omega) h6
 omega
set_option maxHeartbeats 1000000 in
theorem DivDown_any (a b : Int) (w : World) (h1 : -1000000000000 ≤ a) (h2 : a ≤ 1000000000000) (h3 : 1 ≤ b) (h4 : b ≤ 1000000000000) :
  Calls Tryz.prog 80 #[.int .i64 a, .int .i64 b] w fun e w' => e = .returned (.tuple #[.int .i64 (a / b), .int .i64 0]) ∧ w = w' := by
 have hb0 : (b == 0) = false := beq_eq_false_iff_ne.2 (by omega)
 have hb1 : decide (b < 0) = false := decide_eq_false (by omega)
 have ha1 : (a == -9223372036854775808) = false := beq_eq_false_iff_ne.2 (by omega)
 by_cases ha : 0 ≤ a
 ·have hn : decide (a < 0) = false := decide_eq_false (by omega)
  go_enter Tryz.func80, Tryz.ntmps80
  go_wp2
  all_goals
   go_ret2
   exact ⟨rfl, rfl⟩
 ·have hn : decide (a < 0) = true := decide_eq_true (by omega)
  by_cases hm : a.tmod b = 0
  ·have hq := tdiv_neg_yes (by omega) hm
   have HQ := Lib.hid hq
   have hm' : (a.tmod b != 0) = false := by simp [hm]
   have HM := Lib.hid hm
   clear hm hq
   go_enter Tryz.func80, Tryz.ntmps80
   go_wp2
   go_ret2
   exact ⟨by rw [← HQ.out]; rfl, rfl⟩
  ·have hq := tdiv_neg_no (by omega) (by omega) hm
   have hlo : a ≤ a / b := by
    rw [Int.le_ediv_iff_mul_le (by omega)]
    have := Int.mul_le_mul_of_nonpos_left (a := a) (show a ≤ 0 by omega) (show (1 : Int) ≤ b by omega)
    omega
   have hhi : a / b < 0 := Int.ediv_neg_of_neg_of_pos (by omega) (by omega)
   have t1 : -1000000000000 ≤ a.tdiv b := by omega
   have t2 : a.tdiv b ≤ 0 := by omega
   have hw : IntKind.i64.wrap (a.tdiv b - 1) = a.tdiv b - 1 := IntWalk.i64_in _ (by omega)
   have HQ := Lib.hid hq
   have hm' : (a.tmod b != 0) = true := by simp [hm]
   have HM := Lib.hid hm
   clear hm hq hlo hhi
   go_enter Tryz.func80, Tryz.ntmps80
   go_wp2
   go_ret2
   exact ⟨by rw [← HQ.out]; rfl, rfl⟩
theorem up_yes {a b : Int} (hb : 0 < b) (h : a.tmod b = 0) : upD a b = a / b := by
 obtain ⟨k, rfl⟩ := dvd_of_tmod h
 unfold upD
 rw [← Int.mul_neg, Int.mul_ediv_cancel_left _ (by omega), Int.mul_ediv_cancel_left _ (by omega), Int.neg_neg]
theorem up_no {a b : Int} (hb : 0 < b) (h : a.tmod b ≠ 0) : upD a b = a / b + 1 := by
 unfold upD
 have h1 := Int.emod_add_mul_ediv a b
 have h2 := Int.emod_nonneg a (show b ≠ 0 by omega)
 have h3 := Int.emod_lt_of_pos a hb
 have h0 : a % b ≠ 0 := fun e => h (Int.tmod_eq_zero_of_dvd (Int.dvd_of_emod_eq_zero e))
 have h4 : (-a) / b = -(a / b) - 1 := by
  refine Int.ediv_eq_iff_of_pos hb |>.2 ⟨?_, ?_⟩
  ·rw [Int.sub_mul, Int.one_mul, Int.neg_mul, Int.mul_comm (a / b) b]; omega
  ·rw [Int.sub_mul, Int.one_mul, Int.neg_mul, Int.mul_comm (a / b) b]; omega
 rw [h4]; omega
theorem div_bd {a b m : Int} (hb : 0 < b) (h1 : -m ≤ a) (h2 : a ≤ m) (hm : 0 ≤ m) : -m ≤ a / b ∧ a / b ≤ m := by
 constructor
 ·rw [Int.le_ediv_iff_mul_le hb]
  have : -m * b ≤ -m * 1 := Int.mul_le_mul_of_nonpos_left (by omega) (by omega)
  omega
 ·refine Int.ediv_le_of_le_mul hb ?_
  have : m * 1 ≤ m * b := Int.mul_le_mul_of_nonneg_left (by omega) hm
  omega
set_option maxHeartbeats 1000000 in
theorem DivUp_any (a b : Int) (w : World) (h1 : -1000000000000 ≤ a) (h2 : a ≤ 1000000000000) (h3 : 1 ≤ b) (h4 : b ≤ 1000000000000) :
  Calls Tryz.prog 81 #[.int .i64 a, .int .i64 b] w fun e w' => e = .returned (.tuple #[.int .i64 (upD a b), .int .i64 0]) ∧ w = w' := by
 have HD := Lib.hid (fun W => DivDown_any a b W h1 h2 h3 h4)
 have hb0 : (b == 0) = false := beq_eq_false_iff_ne.2 (by omega)
 have hq := div_bd (show 0 < b by omega) h1 h2 (by omega)
 obtain ⟨q1, q2⟩ := hq
 by_cases hm : a.tmod b = 0
 ·have HU := Lib.hid (up_yes (show 0 < b by omega) hm)
  have hm' : (a.tmod b != 0) = false := by simp [hm]
  generalize a / b = q at *
  go_enter Tryz.func81, Tryz.ntmps81
  go_wp2_with (go_at_call 80; go_loud (refine (HD.out _).mono ?_; rintro e w1 ⟨rfl, rfl⟩))
  go_ret2
  exact ⟨by rw [HU.out]; rfl, rfl⟩
 ·have HU := Lib.hid (up_no (show 0 < b by omega) hm)
  have hm' : (a.tmod b != 0) = true := by simp [hm]
  generalize a / b = q at *
  have hw : IntKind.i64.wrap (q + 1) = q + 1 := IntWalk.i64_in _ (by omega)
  clear hm
  go_enter Tryz.func81, Tryz.ntmps81
  go_wp2_with (go_at_call 80; go_loud (refine (HD.out _).mono ?_; rintro e w1 ⟨rfl, rfl⟩))
  go_ret2
  exact ⟨by rw [HU.out]; rfl, rfl⟩
end
section
open Go
section
variable {P : Program} {ops : Array Oper} {w : World}
end
end
section
open Go.RowKit
def NdAt (b : Nat) (q : Nd) (W : World) : Prop :=
 W.cell? ⟨b, 0, none⟩ = some (.int .i64 q.t) ∧ W.cell? ⟨b, 1, none⟩ = some (.int .i64 q.x) ∧ W.cell? ⟨b, 2, none⟩ = some (.int .i64 q.y) ∧ W.cell? ⟨b, 3, none⟩ = some (.int .i64 q.h) ∧ W.cell? ⟨b, 4, none⟩ = some (.int .i64 q.r) ∧ W.cell? ⟨b, 5, none⟩ = some (.int .i64 q.b)
theorem NdAt.new (q : Nd) (W : World) : NdAt W.heap.size q (W.alloc (.cells #[.int .i64 q.t, .int .i64 q.x, .int .i64 q.y, .int .i64 q.h, .int .i64 q.r, .int .i64 q.b] 52)) :=
 ⟨World.cell?_alloc_new _ _ _ _, World.cell?_alloc_new _ _ _ _, World.cell?_alloc_new _ _ _ _, World.cell?_alloc_new _ _ _ _, World.cell?_alloc_new _ _ _ _, World.cell?_alloc_new _ _ _ _⟩
theorem NdAt.below {b B : Nat} {q : Nd} {W W2 : World} (h : NdAt b q W) (hb : Below B W W2) (hB : b < B) : NdAt b q W2 := by
 obtain ⟨h0, h1, h2, h3, h4, h5⟩ := h
 exact ⟨(hb.cell (p := ⟨b, 0, none⟩) hB).trans h0, (hb.cell (p := ⟨b, 1, none⟩) hB).trans h1, (hb.cell (p := ⟨b, 2, none⟩) hB).trans h2, (hb.cell (p := ⟨b, 3, none⟩) hB).trans h3, (hb.cell (p := ⟨b, 4, none⟩) hB).trans h4, (hb.cell (p := ⟨b, 5, none⟩) hB).trans h5⟩
theorem size_al (w : World) (o : Obj) : (w.alloc o).heap.size = w.heap.size + 1 := by
 simp only [World.alloc, Array.size_push]
theorem firstC_step {f : Nat → Int} {j n : Nat} (h : j < n) : firstC f j (n - j) = if f j = 0 then firstC f (j + 1) (n - (j + 1)) else f j := by
 obtain ⟨k, hk⟩ : ∃ k, n - j = k + 1 := ⟨n - j - 1, by omega⟩
 rw [hk, firstC, show n - (j + 1) = k by omega]
theorem firstC_end {f : Nat → Int} (n : Nat) : firstC f n (n - n) = 0 := by rw [Nat.sub_self]; rfl
def TuA (A : Option Addr) (n : Nat) (l : Tu) (w : World) : Prop := l.length = n ∧ Sl w w.heap.size 6 A n (fun i => ndV l[i]!)
set_option maxRecDepth 100000 in
set_option maxHeartbeats 8000000 in
theorem TCheck_any (A : Option Addr) (n c : Nat) (l : Tu) (w : World) (hA : TuA A n l w) (hn : n ≤ maxLen) :
  Calls Tryz.prog 47 #[.slice A n c] w fun e w' => e = .returned (.int .i64 (tuE l)) ∧ Below w.heap.size w w' := by
 obtain ⟨hl, hS⟩ := hA
 unfold maxLen at hn
 by_cases h64 : 64 < n
 ·have HR : Hid (tuE l = 2) := Lib.hid (by unfold tuE; rw [hl, if_pos h64])
  have b1 : decide ((64 : Int) < (n : Int)) = true := decide_eq_true (by omega)
  clear h64 hl hS
  go_enter Tryz.func47, Tryz.ntmps47
  go_wp2
  go_ret
  exact ⟨by rw [HR.out]; rfl, Below.refl _ _⟩
 by_cases h0 : n = 0
 ·have HR : Hid (tuE l = 3) := Lib.hid (by unfold tuE; rw [hl, if_neg h64, if_pos h0])
  subst h0
  clear h64 hl hS
  go_enter Tryz.func47, Tryz.ntmps47
  go_wp2
  go_ret
  exact ⟨by rw [HR.out]; rfl, Below.refl _ _⟩
 have HR : Hid (tuE l = firstC (ndE l) 0 n) := Lib.hid (by unfold tuE; rw [hl, if_neg h64, if_neg h0])
 obtain ⟨bb, off, rfl, hbb, hr⟩ := hS (by omega)
 have HC := Lib.hid hr
 have b1 : decide ((64 : Int) < (n : Int)) = false := decide_eq_false (by omega)
 have b2 : ((n : Int) == 0) = false := by rw [beq_eq_false_iff_ne]; omega
 have hn0 : (0 : Int) ≤ (n : Int) := by omega
 clear hr hl hS
 go_enter Tryz.func47, Tryz.ntmps47
 go_wp2_with fail
 go_loopw [16] (fun i wr => ∃ j : Nat, j ≤ n ∧ i = .int .i64 (j : Int) ∧ Hid (tuE l = firstC (ndE l) j (n - j)) ∧ Hid (Below w.heap.size w wr)) (fun i _ => n - (intOf i).toNat)
 case atStart => exact ⟨0, by omega, rfl, Lib.hid (by rw [HR.out]; rfl), Lib.hid (Below.refl _ _)⟩
 case round =>
  obtain ⟨j, hj, rfl, HF, HB⟩ := hrel
  have hzr : w.heap.size ≤ wr.heap.size := HB.out.size
  by_cases hlt : j < n
  ·have l1 : (j : Int) < (n : Int) := by omega
   have l0 : (0 : Int) ≤ (j : Int) := by omega
   have hcs : ∀ q v, (ndV l[j]!)[q]? = some v → wr.cell? ⟨bb, off + j * 6 + q, none⟩ = some v := fun q v hv => (HB.out.cell (p := ⟨bb, off + j * 6 + q, none⟩) hbb).trans (HC.out j hlt q v hv)
   have hbr : bb < wr.heap.size := by omega
   have hps : ∀ (_ : 0 < j), wr.cell? ⟨bb, off + (j - 1) * 6, none⟩ = some (.int .i64 (l[j - 1]!).t) := fun h => (HB.out.cell (p := ⟨bb, off + (j - 1) * 6, none⟩) hbb).trans (HC.out (j - 1) (by omega) 0 _ rfl)
   have HPS := Lib.hid hps
   have HST := Lib.hid (firstC_step (f := ndE l) hlt)
   have HE : Hid (ndE l j = ndE l j) := Lib.hid rfl
   unfold ndE at HE
   clear hps
   obtain ⟨q, hq⟩ : ∃ q, l[j]! = q := ⟨_, rfl⟩
   have HE2 : Hid (ndE l j = if q.t < 0 ∨ 200000 < q.t ∨ (0 < j ∧ q.t ≤ (l[j - 1]!).t) then 12 else if ptE q.x q.y ≠ 0 then 4 else if q.h < 0 ∨ 60000 < q.h ∨ q.r < 0 ∨ 1000000 < q.r ∨ q.b < 0 ∨ 60000 < q.b then 4 else 0) := Lib.hid (by unfold ndE; rw [hq])
   rw [hq] at hcs
   clear hq HE
   generalize (l[j - 1]!).t = p at HE2 HPS
   have d0 : wr.cell? ⟨bb, off + j * 6, none⟩ = some (.int .i64 q.t) := hcs 0 _ rfl
   have d1 : wr.cell? ⟨bb, off + j * 6 + 1, none⟩ = some (.int .i64 q.x) := hcs 1 _ rfl
   have d2 : wr.cell? ⟨bb, off + j * 6 + 2, none⟩ = some (.int .i64 q.y) := hcs 2 _ rfl
   have d3 : wr.cell? ⟨bb, off + j * 6 + 3, none⟩ = some (.int .i64 q.h) := hcs 3 _ rfl
   have d4 : wr.cell? ⟨bb, off + j * 6 + 4, none⟩ = some (.int .i64 q.r) := hcs 4 _ rfl
   have d5 : wr.cell? ⟨bb, off + j * 6 + 5, none⟩ = some (.int .i64 q.b) := hcs 5 _ rfl
   clear hcs
   obtain ⟨qt, qx, qy, qh, qr, qb⟩ := q
   simp only at d0 d1 d2 d3 d4 d5 HE2
   go_upto_region 8 with (fail)
   obtain ⟨w7, hw7⟩ : ∃ w7, wr.alloc (.cells #[.int .i64 qt, .int .i64 qx, .int .i64 qy, .int .i64 qh, .int .i64 qr, .int .i64 qb] 52) = w7 := ⟨_, rfl⟩
   have HN : Hid (NdAt wr.heap.size ⟨qt, qx, qy, qh, qr, qb⟩ w7) := Lib.hid (by rw [← hw7]; exact NdAt.new ⟨qt, qx, qy, qh, qr, qb⟩ wr)
   have hb7 : Below wr.heap.size wr w7 := by rw [← hw7]; exact (Below.refl _ wr).alloc (Nat.le_refl _) _
   have HB7 : Hid (Below w.heap.size w w7) := Lib.hid (HB.out.trans (hb7.mono hzr))
   have z7 : wr.heap.size < w7.heap.size := by rw [← hw7, size_al]; omega
   have HP7 : Hid (0 < j → w7.cell? ⟨bb, off + (j - 1) * 6, none⟩ = some (.int .i64 p)) := Lib.hid fun h => (hb7.cell (p := ⟨bb, off + (j - 1) * 6, none⟩) hbr).trans (HPS.out h)
   rw [hw7]
   clear hw7 d0 d1 d2 d3 d4 d5 hb7
   generalize wr.heap.size = C at *
   go_cut [47] from 21 to 85 (fun s47 wx => s47 = .bool (decide (qt < 0 ∨ 200000 < qt ∨ (0 < j ∧ qt ≤ p))) ∧ Below w7.heap.size w7 wx)
   case first =>
    obtain ⟨n0, n1, n2, n3, n4, n5⟩ := HN.out
    have k0 := cell_regrown n0
    by_cases t1 : qt < 0
    ·have a1 : decide (qt < 0) = true := decide_eq_true t1
     have HT : Hid (decide (qt < 0 ∨ 200000 < qt ∨ (0 < j ∧ qt ≤ p)) = true) := Lib.hid (decide_eq_true (.inl t1))
     clear t1
     refine wp_region_quiet_below (by kernel_rfl) (by kernel_rfl) ?_
     repeat (go_big_quiet_step (fail))
     refine wpQuiet_nil ?_
     intro _ hw'
     obtain ⟨⟨dq, osq⟩, hw''⟩ := hw'
     subst hw''
     go_wp2_with fail
     go_meet
     case rel => exact ⟨by rw [HT.out], below_regrown _ _ _⟩
    have a1 : decide (qt < 0) = false := decide_eq_false t1
    by_cases t2 : 200000 < qt
    ·have a2 : decide (200000 < qt) = true := decide_eq_true t2
     have HT : Hid (decide (qt < 0 ∨ 200000 < qt ∨ (0 < j ∧ qt ≤ p)) = true) := Lib.hid (decide_eq_true (.inr (.inl t2)))
     clear t1 t2
     refine wp_region_quiet_below (by kernel_rfl) (by kernel_rfl) ?_
     repeat (go_big_quiet_step (fail))
     refine wpQuiet_nil ?_
     intro _ hw'
     obtain ⟨⟨dq, osq⟩, hw''⟩ := hw'
     subst hw''
     go_wp2_with fail
     go_meet
     case rel => exact ⟨by rw [HT.out], below_regrown _ _ _⟩
    have a2 : decide (200000 < qt) = false := decide_eq_false t2
    by_cases t3 : 0 < j
    ·have a3 : decide ((0 : Int) < (j : Int)) = true := decide_eq_true (by omega)
     have a3n : decide (0 < j) = true := decide_eq_true t3
     have kp := cell_regrown (HP7.out t3)
     have hwj : IntKind.i64.wrap ((j : Int) - 1) = ((j - 1 : Nat) : Int) := by rw [IntWalk.i64_in _ (by omega)]; omega
     have j0 : (0 : Int) ≤ ((j - 1 : Nat) : Int) := by omega
     have j1 : ((j - 1 : Nat) : Int) < (n : Int) := by omega
     have HT : Hid (decide (qt < 0 ∨ 200000 < qt ∨ (0 < j ∧ qt ≤ p)) = decide (qt ≤ p)) := Lib.hid (by
      by_cases h : qt ≤ p
      ·rw [decide_eq_true h]; exact decide_eq_true (.inr (.inr ⟨t3, h⟩))
      ·rw [decide_eq_false h]; exact decide_eq_false (by rintro (h1 | h1 | ⟨_, h1⟩); exact t1 h1; exact t2 h1; exact h h1))
     generalize j - 1 = jp at *
     clear t1 t2
     refine wp_region_quiet_below (by kernel_rfl) (by kernel_rfl) ?_
     repeat (go_big_quiet_step (fail))
     refine wpQuiet_nil ?_
     intro _ hw'
     obtain ⟨⟨dq, osq⟩, hw''⟩ := hw'
     subst hw''
     go_wp2_with fail
     go_meet
     case rel => exact ⟨by rw [HT.out], below_regrown _ _ _⟩
    ·have a3 : decide ((0 : Int) < (j : Int)) = false := decide_eq_false (by omega)
     have a3n : decide (0 < j) = false := decide_eq_false t3
     have HT : Hid (decide (qt < 0 ∨ 200000 < qt ∨ (0 < j ∧ qt ≤ p)) = false) := Lib.hid (decide_eq_false (by rintro (h1 | h1 | ⟨h1, _⟩); exact t1 h1; exact t2 h1; exact t3 h1))
     clear t1 t2 t3
     refine wp_region_quiet_below (by kernel_rfl) (by kernel_rfl) ?_
     repeat (go_big_quiet_step (fail))
     refine wpQuiet_nil ?_
     intro _ hw'
     obtain ⟨⟨dq, osq⟩, hw''⟩ := hw'
     subst hw''
     go_wp2_with fail
     go_meet
     case rel => exact ⟨by rw [HT.out], below_regrown _ _ _⟩
   case rest =>
    obtain ⟨rfl, hbc⟩ := hcut
    have hNc := HN.out.below hbc z7
    have HBc := Lib.hid (HB7.out.trans (hbc.mono HB7.out.size))
    by_cases hT : qt < 0 ∨ 200000 < qt ∨ (0 < j ∧ qt ≤ p)
    ·have HZ : Hid (tuE l = 12) := Lib.hid (by
      have e := HE2.out
      rw [if_pos hT] at e
      rw [HF.out, HST.out, e, if_neg (by decide)])
     rw [decide_eq_true hT]
     clear hT
     go_wp2_with fail
     go_ret
     exact ⟨by rw [HZ.out]; rfl, HBc.out⟩
    have HE3 : Hid (ndE l j = if ptE qx qy ≠ 0 then 4 else if qh < 0 ∨ 60000 < qh ∨ qr < 0 ∨ 1000000 < qr ∨ qb < 0 ∨ 60000 < qb then 4 else 0) := Lib.hid (by rw [HE2.out, if_neg hT])
    rw [decide_eq_false hT]
    clear hT
    obtain ⟨n0, n1, n2, n3, n4, n5⟩ := hNc
    by_cases hp : ptE qx qy = 0
    ·have HE4 : Hid (ndE l j = if qh < 0 ∨ 60000 < qh ∨ qr < 0 ∨ 1000000 < qr ∨ qb < 0 ∨ 60000 < qb then 4 else 0) := Lib.hid (by rw [HE3.out, if_neg (by rw [hp]; decide)])
     have HP := Lib.hid (fun W => (PCheck_any qx qy W).mono fun e W2 h => (show e = .returned (.int .i64 0) ∧ Below W.heap.size W W2 from ⟨by rw [h.1, hp], h.2⟩))
     have HN2 : Hid (NdAt C ⟨qt, qx, qy, qh, qr, qb⟩ wc) := Lib.hid ⟨n0, n1, n2, n3, n4, n5⟩
     have hzc : C < wc.heap.size := by have := hbc.size; omega
     clear hp
     go_upto_region 13 with (go_at_call 76; go_loud (refine (HP.out _).mono ?_; rintro e w8 ⟨rfl, hb8⟩))
     have HB8 := Lib.hid (bstep HBc.out hb8)
     have hN8 := HN2.out.below hb8 hzc
     clear n0 n1 n2 n3 n4 n5
     go_cut [84] from 21 to 85 (fun s84 wx => s84 = .bool (decide (qh < 0 ∨ 60000 < qh ∨ qr < 0 ∨ 1000000 < qr ∨ qb < 0 ∨ 60000 < qb)) ∧ wx = w8)
     case first =>
      obtain ⟨n0, n1, n2, n3, n4, n5⟩ := hN8
      by_cases h0 : qh < 0
      ·have HT : Hid (decide (qh < 0 ∨ 60000 < qh ∨ qr < 0 ∨ 1000000 < qr ∨ qb < 0 ∨ 60000 < qb) = true) := Lib.hid (decide_eq_true (.inl h0))
       have v0 : decide (qh < 0) = true := decide_eq_true h0
       clear h0
       go_wp2_with fail
       go_meet
       case rel => exact ⟨by rw [HT.out], rfl⟩
      have v0 : decide (qh < 0) = false := decide_eq_false h0
      by_cases h1 : 60000 < qh
      ·have HT : Hid (decide (qh < 0 ∨ 60000 < qh ∨ qr < 0 ∨ 1000000 < qr ∨ qb < 0 ∨ 60000 < qb) = true) := Lib.hid (decide_eq_true (.inr (.inl h1)))
       have v1 : decide (60000 < qh) = true := decide_eq_true h1
       clear h0 h1
       go_wp2_with fail
       go_meet
       case rel => exact ⟨by rw [HT.out], rfl⟩
      have v1 : decide (60000 < qh) = false := decide_eq_false h1
      by_cases h2 : qr < 0
      ·have HT : Hid (decide (qh < 0 ∨ 60000 < qh ∨ qr < 0 ∨ 1000000 < qr ∨ qb < 0 ∨ 60000 < qb) = true) := Lib.hid (decide_eq_true (.inr (.inr (.inl h2))))
       have v2 : decide (qr < 0) = true := decide_eq_true h2
       clear h0 h1 h2
       go_wp2_with fail
       go_meet
       case rel => exact ⟨by rw [HT.out], rfl⟩
      have v2 : decide (qr < 0) = false := decide_eq_false h2
      by_cases h3 : 1000000 < qr
      ·have HT : Hid (decide (qh < 0 ∨ 60000 < qh ∨ qr < 0 ∨ 1000000 < qr ∨ qb < 0 ∨ 60000 < qb) = true) := Lib.hid (decide_eq_true (.inr (.inr (.inr (.inl h3)))))
       have v3 : decide (1000000 < qr) = true := decide_eq_true h3
       clear h0 h1 h2 h3
       go_wp2_with fail
       go_meet
       case rel => exact ⟨by rw [HT.out], rfl⟩
      have v3 : decide (1000000 < qr) = false := decide_eq_false h3
      by_cases h4 : qb < 0
      ·have HT : Hid (decide (qh < 0 ∨ 60000 < qh ∨ qr < 0 ∨ 1000000 < qr ∨ qb < 0 ∨ 60000 < qb) = true) := Lib.hid (decide_eq_true (.inr (.inr (.inr (.inr (.inl h4))))))
       have v4 : decide (qb < 0) = true := decide_eq_true h4
       clear h0 h1 h2 h3 h4
       go_wp2_with fail
       go_meet
       case rel => exact ⟨by rw [HT.out], rfl⟩
      have v4 : decide (qb < 0) = false := decide_eq_false h4
      by_cases h5 : 60000 < qb
      ·have HT : Hid (decide (qh < 0 ∨ 60000 < qh ∨ qr < 0 ∨ 1000000 < qr ∨ qb < 0 ∨ 60000 < qb) = true) := Lib.hid (decide_eq_true (.inr (.inr (.inr (.inr (.inr (h5)))))))
       have v5 : decide (60000 < qb) = true := decide_eq_true h5
       clear h0 h1 h2 h3 h4 h5
       go_wp2_with fail
       go_meet
       case rel => exact ⟨by rw [HT.out], rfl⟩
      have v5 : decide (60000 < qb) = false := decide_eq_false h5
      have HT : Hid (decide (qh < 0 ∨ 60000 < qh ∨ qr < 0 ∨ 1000000 < qr ∨ qb < 0 ∨ 60000 < qb) = false) := Lib.hid (decide_eq_false (by omega))
      clear h0 h1 h2 h3 h4 h5
      go_wp2_with fail
      go_meet
      case rel => exact ⟨by rw [HT.out], rfl⟩
     case rest =>
      obtain ⟨rfl, rfl⟩ := hcut
      by_cases hb : qh < 0 ∨ 60000 < qh ∨ qr < 0 ∨ 1000000 < qr ∨ qb < 0 ∨ 60000 < qb
      ·have HZ : Hid (tuE l = 4) := Lib.hid (by
        have e := HE4.out
        rw [if_pos hb] at e
        rw [HF.out, HST.out, e, if_neg (by decide)])
       rw [decide_eq_true hb]
       clear hb
       go_wp2_with fail
       go_ret
       exact ⟨by rw [HZ.out]; rfl, HB8.out⟩
      ·have HZ : Hid (tuE l = firstC (ndE l) (j + 1) (n - (j + 1))) := Lib.hid (by
        have e := HE4.out
        rw [if_neg hb] at e
        rw [HF.out, HST.out, if_pos e])
       rw [decide_eq_false hb]
       clear hb
       go_wp2_with fail
       go_roundw
       case rel => exact ⟨j + 1, by omega, by go_num, HZ, HB8⟩
       case measure => simp [intOf]; omega
    ·have hq4 : ptE qx qy = 4 := (ptE_cases qx qy).resolve_left hp
     have HZ : Hid (tuE l = 4) := Lib.hid (by
      have e := HE3.out
      rw [if_pos hp] at e
      rw [HF.out, HST.out, e, if_neg (by decide)])
     have HP := Lib.hid (fun W => (PCheck_any qx qy W).mono fun e W2 h => (show e = .returned (.int .i64 4) ∧ Below W.heap.size W W2 from ⟨by rw [h.1, hq4], h.2⟩))
     clear hp hq4
     go_wp2_with (go_at_call 76; go_loud (refine (HP.out _).mono ?_; rintro e w8 ⟨rfl, hb8⟩))
     go_ret
     exact ⟨by rw [HZ.out]; rfl, bstep HBc.out hb8⟩
  ·obtain rfl : n = j := by omega
   have HZ : Hid (tuE l = 0) := Lib.hid (HF.out.trans (firstC_end n))
   go_wp2_with fail
   go_ret
   exact ⟨by rw [HZ.out]; rfl, HB.out⟩
end
section
open Go.RowKit
def BsfNdP (_ lo : Nat) (is : Bool) (w : World) (e : Ending) (w' : World) : Prop := e = .returned (.tuple #[.int .i64 (lo : Int), .bool is]) ∧ Below w.heap.size w w'
set_option maxRecDepth 100000 in
set_option maxHeartbeats 4000000 in
theorem BsfNd_any (A : Option Addr) (n c p : Nat) (f : Nat → Nd) (t : Int) (cf : Nd → Int) (w : World) (hA : Sl w w.heap.size 6 A n (fun i => (fun x : Nd => [.int .i64 x.1, .int .i64 x.2, .int .i64 x.3, .int .i64 x.4, .int .i64 x.5, .int .i64 x.6]) (f i))) (hn : n ≤ 1000000) (hp : p ≤ n)
  (hcmp : ∀ (W : World) (x : Nd), Below w.heap.size w W → Calls Tryz.prog 78 #[.agg #[.int .i64 x.1, .int .i64 x.2, .int .i64 x.3, .int .i64 x.4, .int .i64 x.5, .int .i64 x.6], .int .i64 t] W fun e w' => e = .returned (.int .i64 (cf x)) ∧ Below W.heap.size W w')
  (hlo : ∀ i, i < p → cf (f i) < 0) (hhi : ∀ i, p ≤ i → i < n → 0 ≤ cf (f i)) :
  Calls Tryz.prog 77 #[.slice A n c, .int .i64 t, .func (.func 78) #[] #[]] w (BsfNdP n p (decide (p < n) && decide (cf (f p) = 0)) w) := by
 have HA := Lib.hid hA
 have HC := Lib.hid hcmp
 have HL := Lib.hid hlo
 have HH := Lib.hid hhi
 clear hA hcmp hlo hhi
 go_enter Tryz.func77, Tryz.ntmps77
 go_wp2
 go_loopw [9, 10] (fun a b wr => ∃ lo hi : Nat, a = .int .i64 lo ∧ b = .int .i64 hi ∧ lo ≤ p ∧ p ≤ hi ∧ hi ≤ n ∧ Below w.heap.size w wr) (fun a b _ => (intOf b).toNat - (intOf a).toNat)
 case atStart => exact ⟨0, n, rfl, rfl, Nat.zero_le _, hp, Nat.le_refl _, Below.refl _ _⟩
 case round =>
  obtain ⟨lo, hi, rfl, rfl, hlp, hph, hin, hbl⟩ := hrel
  by_cases hlt : lo < hi
  ·obtain ⟨b, off, rfl, hb, hr⟩ := HA.out (by omega)
   have hmid : (lo + hi) / 2 < n := by omega
   have hmid2 : (lo + hi) / 2 < hi := by omega
   have c0 : wr.cell? ⟨b, off + (lo + hi) / 2 * 6, none⟩ = some (.int .i64 (f ((lo + hi) / 2)).1) := (hbl.cell (p := ⟨b, _, none⟩) hb).trans (hr ((lo + hi) / 2) hmid 0 _ rfl)
   have c1 : wr.cell? ⟨b, off + (lo + hi) / 2 * 6 + 1, none⟩ = some (.int .i64 (f ((lo + hi) / 2)).2) := (hbl.cell (p := ⟨b, _, none⟩) hb).trans (hr ((lo + hi) / 2) hmid 1 _ rfl)
   have c2 : wr.cell? ⟨b, off + (lo + hi) / 2 * 6 + 2, none⟩ = some (.int .i64 (f ((lo + hi) / 2)).3) := (hbl.cell (p := ⟨b, _, none⟩) hb).trans (hr ((lo + hi) / 2) hmid 2 _ rfl)
   have c3 : wr.cell? ⟨b, off + (lo + hi) / 2 * 6 + 3, none⟩ = some (.int .i64 (f ((lo + hi) / 2)).4) := (hbl.cell (p := ⟨b, _, none⟩) hb).trans (hr ((lo + hi) / 2) hmid 3 _ rfl)
   have c4 : wr.cell? ⟨b, off + (lo + hi) / 2 * 6 + 4, none⟩ = some (.int .i64 (f ((lo + hi) / 2)).5) := (hbl.cell (p := ⟨b, _, none⟩) hb).trans (hr ((lo + hi) / 2) hmid 4 _ rfl)
   have c5 : wr.cell? ⟨b, off + (lo + hi) / 2 * 6 + 5, none⟩ = some (.int .i64 (f ((lo + hi) / 2)).6) := (hbl.cell (p := ⟨b, _, none⟩) hb).trans (hr ((lo + hi) / 2) hmid 5 _ rfl)
   clear hr
   generalize hy : f ((lo + hi) / 2) = x at c0 c1 c2 c3 c4 c5
   have HY := Lib.hid hy
   have HB := Lib.hid hbl
   clear hy hbl
   by_cases hx : cf x < 0
   ·have hpm : (lo + hi) / 2 < p := by
     refine Nat.lt_of_not_le fun h => ?_
     have := HH.out _ h hmid
     rw [HY.out] at this; omega
    go_wp2_with (go_at_call 78; go_loud (refine (HC.out _ x HB.out).mono ?_; rintro e w' ⟨rfl, hb'⟩))
    go_roundw
    case rel => exact ⟨(lo + hi) / 2 + 1, hi, by rw [show ((lo : Int) + (hi : Int)) / 2 + 1 = (((lo + hi) / 2 + 1 : Nat) : Int) by omega], rfl, by omega, hph, hin, HB.out.trans (hb'.mono HB.out.size)⟩
    case measure => simp [intOf]; omega
   ·have hpm : p ≤ (lo + hi) / 2 := by
     refine Nat.le_of_not_lt fun h => ?_
     exact hx (by rw [← HY.out]; exact HL.out _ h)
    go_wp2_with (go_at_call 78; go_loud (refine (HC.out _ x HB.out).mono ?_; rintro e w' ⟨rfl, hb'⟩))
    go_roundw
    case rel => exact ⟨lo, (lo + hi) / 2, rfl, by rw [show ((lo : Int) + (hi : Int)) / 2 = (((lo + hi) / 2 : Nat) : Int) by omega], hlp, hpm, by omega, HB.out.trans (hb'.mono HB.out.size)⟩
    case measure => simp [intOf]; omega
  ·obtain rfl : lo = p := by omega
   obtain rfl : lo = hi := by omega
   by_cases hlt : lo < n
   ·obtain ⟨b, off, rfl, hb, hr⟩ := HA.out (by omega)
    have c0 : wr.cell? ⟨b, off + lo * 6, none⟩ = some (.int .i64 (f lo).1) := (hbl.cell (p := ⟨b, _, none⟩) hb).trans (hr lo hlt 0 _ rfl)
    have c1 : wr.cell? ⟨b, off + lo * 6 + 1, none⟩ = some (.int .i64 (f lo).2) := (hbl.cell (p := ⟨b, _, none⟩) hb).trans (hr lo hlt 1 _ rfl)
    have c2 : wr.cell? ⟨b, off + lo * 6 + 2, none⟩ = some (.int .i64 (f lo).3) := (hbl.cell (p := ⟨b, _, none⟩) hb).trans (hr lo hlt 2 _ rfl)
    have c3 : wr.cell? ⟨b, off + lo * 6 + 3, none⟩ = some (.int .i64 (f lo).4) := (hbl.cell (p := ⟨b, _, none⟩) hb).trans (hr lo hlt 3 _ rfl)
    have c4 : wr.cell? ⟨b, off + lo * 6 + 4, none⟩ = some (.int .i64 (f lo).5) := (hbl.cell (p := ⟨b, _, none⟩) hb).trans (hr lo hlt 4 _ rfl)
    have c5 : wr.cell? ⟨b, off + lo * 6 + 5, none⟩ = some (.int .i64 (f lo).6) := (hbl.cell (p := ⟨b, _, none⟩) hb).trans (hr lo hlt 5 _ rfl)
    clear hr
    generalize hy : f lo = x at c0 c1 c2 c3 c4 c5
    have HB := Lib.hid hbl
    have HY := Lib.hid hy
    clear hy hbl
    by_cases hx : cf x = 0
    ·have HV := Lib.hid (show (decide (lo < n) && decide (cf (f lo) = 0)) = true by rw [HY.out]; simp [hlt, hx])
     have hx' : (cf x == 0) = true := by simp [hx]
     have HX := Lib.hid hx
     clear hx
     go_wp2_with (go_at_call 78; go_loud (refine (HC.out _ x HB.out).mono ?_; rintro e w' ⟨rfl, hb'⟩))
     go_ret2
     exact ⟨by rw [HV.out]; rfl, HB.out.trans (hb'.mono HB.out.size)⟩
    ·have HV := Lib.hid (show (decide (lo < n) && decide (cf (f lo) = 0)) = false by rw [HY.out]; simp [hx])
     have hx' : (cf x == 0) = false := by simp [hx]
     have HX := Lib.hid hx
     clear hx
     go_wp2_with (go_at_call 78; go_loud (refine (HC.out _ x HB.out).mono ?_; rintro e w' ⟨rfl, hb'⟩))
     go_ret2
     exact ⟨by rw [HV.out]; rfl, HB.out.trans (hb'.mono HB.out.size)⟩
   ·have HV := Lib.hid (show (decide (lo < n) && decide (cf (f lo) = 0)) = false by simp [hlt])
    have HB := Lib.hid hbl
    clear hbl
    go_wp2
    go_ret2
    exact ⟨by rw [HV.out]; rfl, HB.out⟩
end
section
open Go.RowKit
set_option maxRecDepth 100000 in
set_option maxHeartbeats 4000000 in
theorem Ends_any (A : Option Addr) (n c : Nat) (l : Tu) (w : World) (hA : TuA A n l w) (h0 : 0 < n) (hn : n ≤ 64) :
  Calls Tryz.prog 48 #[.slice A n c] w fun e w' => e = .returned (.tuple #[.int .i64 (fstT l), .int .i64 (lstT l)]) ∧ Below w.heap.size w w' := by
 obtain ⟨hl, hS⟩ := hA
 obtain ⟨bb, off, rfl, hbb, hr⟩ := hS h0
 have c0 : w.cell? ⟨bb, off, none⟩ = some (.int .i64 (fstT l)) := by have := hr 0 h0 0 _ rfl; rw [Nat.zero_mul, Nat.add_zero] at this; exact this
 have c1 : w.cell? ⟨bb, off + (n - 1) * 6, none⟩ = some (.int .i64 (lstT l)) := by have := hr (n - 1) (by omega) 0 _ rfl; unfold lstT; rw [hl]; exact this
 have hw : IntKind.i64.wrap ((n : Int) - 1) = ((n - 1 : Nat) : Int) := by rw [IntWalk.i64_in _ (by omega)]; omega
 have l0 : (0 : Int) ≤ ((n - 1 : Nat) : Int) := by omega
 have l1 : ((n - 1 : Nat) : Int) < (n : Int) := by omega
 clear hr hl hS
 generalize n - 1 = m at *
 generalize fstT l = x at *
 generalize lstT l = y at *
 go_enter Tryz.func48, Tryz.ntmps48
 go_wp2_with fail
 refine wp_region_quiet_below (by kernel_rfl) (by kernel_rfl) ?_
 have k0 := cell_regrown c0
 have k1 := cell_regrown c1
 repeat (go_big_quiet_step (fail))
 refine wpQuiet_nil ?_
 intro _ hw'
 obtain ⟨⟨dq, osq⟩, hw''⟩ := hw'
 subst hw''
 go_wp2_with fail
 go_ret2
 exact ⟨rfl, below_regrown _ _ _⟩
set_option maxHeartbeats 1000000 in
theorem atc_any (q : Nd) (t : Int) (w : World) :
  Calls Tryz.prog 78 #[.agg #[.int .i64 q.t, .int .i64 q.x, .int .i64 q.y, .int .i64 q.h, .int .i64 q.r, .int .i64 q.b], .int .i64 t] w fun e w' => e = .returned (.int .i64 (IntKind.i64.wrap (q.t - t))) ∧ Below w.heap.size w w' := by
 obtain ⟨qt, qx, qy, qh, qr, qb⟩ := q
 simp only
 generalize hw : IntKind.i64.wrap (qt - t) = z
 go_enter Tryz.func78, Tryz.ntmps78
 go_wp2
 go_ret
 exact ⟨rfl, (Below.refl _ w).alloc (Nat.le_refl _) _⟩
theorem set_other {W : World} {B i C j : Nat} {u : Value} (h : B ≠ C ∨ i ≠ j) : (W.setCell ⟨C, j, none⟩ u).cell? ⟨B, i, none⟩ = W.cell? ⟨B, i, none⟩ := by
 refine World.cell?_setCell_other _ _ _ _ ?_
 rintro e
 have e1 := congrArg Addr.block e
 have e2 := congrArg Addr.off e
 dsimp only at e1 e2
 omega
def TwF (ax ay bx by_ : Int) (w W : World) : Prop :=
 w.heap.size + 3 ≤ W.heap.size ∧ Below w.heap.size w W ∧ (W.cell? ⟨w.heap.size, 0, none⟩ = some (.int .i64 ax) ∧ W.cell? ⟨w.heap.size, 1, none⟩ = some (.int .i64 ay)) ∧
 (W.cell? ⟨w.heap.size + 1, 0, none⟩ = some (.int .i64 bx) ∧ W.cell? ⟨w.heap.size + 1, 1, none⟩ = some (.int .i64 by_)) ∧
 (W.cell? ⟨w.heap.size + 1 + 1, 0, none⟩ = some (.int .i64 0) ∧ W.cell? ⟨w.heap.size + 1 + 1, 1, none⟩ = some (.int .i64 0)) ∧
 (W.frozen? ⟨w.heap.size + 1 + 1, 0, none⟩ = false ∧ W.frozen? ⟨w.heap.size + 1 + 1, 1, none⟩ = false)
theorem TwF.on {ax ay bx by_ : Int} {w W W2 : World} (h : TwF ax ay bx by_ w W) (hb : Below W.heap.size W W2) : TwF ax ay bx by_ w W2 := by
 obtain ⟨h0, h1, ⟨a0, a1⟩, ⟨b0, b1⟩, ⟨c0, c1⟩, ⟨f0, f1⟩⟩ := h
 have := hb.size
 have z0 : w.heap.size < W.heap.size := by omega
 have z1 : w.heap.size + 1 < W.heap.size := by omega
 have z2 : w.heap.size + 1 + 1 < W.heap.size := by omega
 exact ⟨by omega, h1.trans (hb.mono h1.size), ⟨(hb.cell (p := ⟨w.heap.size, 0, none⟩) z0).trans a0, (hb.cell (p := ⟨w.heap.size, 1, none⟩) z0).trans a1⟩, ⟨(hb.cell (p := ⟨w.heap.size + 1, 0, none⟩) z1).trans b0, (hb.cell (p := ⟨w.heap.size + 1, 1, none⟩) z1).trans b1⟩,
  ⟨(hb.cell (p := ⟨w.heap.size + 1 + 1, 0, none⟩) z2).trans c0, (hb.cell (p := ⟨w.heap.size + 1 + 1, 1, none⟩) z2).trans c1⟩, ⟨(hb.frozen (p := ⟨w.heap.size + 1 + 1, 0, none⟩) z2).trans f0, (hb.frozen (p := ⟨w.heap.size + 1 + 1, 1, none⟩) z2).trans f1⟩⟩
theorem frozen_new (w : World) (cs : Array Value) (t : TypeId) (i : Nat) : (w.alloc (.cells cs t)).frozen? ⟨w.heap.size, i, none⟩ = false := by
 unfold World.frozen? World.alloc
 dsimp only
 rw [Array.getElem?_push_size]
 simp
theorem TwF.start (ax ay bx by_ : Int) (w : World) : TwF ax ay bx by_ w (((w.alloc (.cells #[.int .i64 ax, .int .i64 ay] 48)).alloc (.cells #[.int .i64 bx, .int .i64 by_] 48)).alloc (.cells #[.int .i64 0, .int .i64 0] 48)) := by
 obtain ⟨W1, h1⟩ : ∃ W1, w.alloc (.cells #[.int .i64 ax, .int .i64 ay] 48) = W1 := ⟨_, rfl⟩
 obtain ⟨W2, h2⟩ : ∃ W2, W1.alloc (.cells #[.int .i64 bx, .int .i64 by_] 48) = W2 := ⟨_, rfl⟩
 obtain ⟨W3, h3⟩ : ∃ W3, W2.alloc (.cells #[.int .i64 0, .int .i64 0] 48) = W3 := ⟨_, rfl⟩
 rw [h1, h2, h3]
 have z1 : W1.heap.size = w.heap.size + 1 := by rw [← h1, size_al]
 have z2 : W2.heap.size = w.heap.size + 1 + 1 := by rw [← h2, size_al, z1]
 have z3 : W3.heap.size = w.heap.size + 1 + 1 + 1 := by rw [← h3, size_al, z2]
 have b1 : Below w.heap.size w W1 := by rw [← h1]; exact (Below.refl _ w).alloc (Nat.le_refl _) _
 have b2 : Below W1.heap.size W1 W2 := by rw [← h2]; exact (Below.refl _ W1).alloc (Nat.le_refl _) _
 have b3 : Below W2.heap.size W2 W3 := by rw [← h3]; exact (Below.refl _ W2).alloc (Nat.le_refl _) _
 have b23 : Below W1.heap.size W1 W3 := b2.trans (b3.mono (by omega))
 have k1 : ∀ i, W1.cell? ⟨w.heap.size, i, none⟩ = (#[.int .i64 ax, .int .i64 ay] : Array Value)[i]? := fun i => by rw [← h1]; exact World.cell?_alloc_new _ _ _ _
 have k2 : ∀ i, W2.cell? ⟨W1.heap.size, i, none⟩ = (#[.int .i64 bx, .int .i64 by_] : Array Value)[i]? := fun i => by rw [← h2]; exact World.cell?_alloc_new _ _ _ _
 have k3 : ∀ i, W3.cell? ⟨W2.heap.size, i, none⟩ = (#[.int .i64 0, .int .i64 0] : Array Value)[i]? := fun i => by rw [← h3]; exact World.cell?_alloc_new _ _ _ _
 have f3 : ∀ i, W3.frozen? ⟨W2.heap.size, i, none⟩ = false := fun i => by rw [← h3]; exact frozen_new _ _ _ _
 rw [z2] at k3 f3
 have e1 : ∀ i, W3.cell? ⟨w.heap.size, i, none⟩ = (#[.int .i64 ax, .int .i64 ay] : Array Value)[i]? := fun i => (b23.cell (p := ⟨w.heap.size, i, none⟩) (by show w.heap.size < _; omega)).trans (k1 i)
 have e2 : ∀ i, W3.cell? ⟨W1.heap.size, i, none⟩ = (#[.int .i64 bx, .int .i64 by_] : Array Value)[i]? := fun i => (b3.cell (p := ⟨W1.heap.size, i, none⟩) (by show W1.heap.size < _; omega)).trans (k2 i)
 rw [z1] at e2
 exact ⟨by omega, b1.trans (b23.mono (by omega)), ⟨e1 0, e1 1⟩, ⟨e2 0, e2 1⟩, ⟨k3 0, k3 1⟩, ⟨f3 0, f3 1⟩⟩
theorem mul_bd2 {a b m k : Int} (ha : -m ≤ a ∧ a ≤ m) (hb : 0 ≤ b ∧ b ≤ k) : -(m * k) ≤ a * b ∧ a * b ≤ m * k := by
 have hm : 0 ≤ m := by omega
 have h1 : m * b ≤ m * k := Int.mul_le_mul_of_nonneg_left hb.2 hm
 have h2 : a * b ≤ m * b := Int.mul_le_mul_of_nonneg_right ha.2 hb.1
 have h3 : -m * b ≤ a * b := Int.mul_le_mul_of_nonneg_right ha.1 hb.1
 rw [Int.neg_mul] at h3
 omega
set_option maxRecDepth 100000 in
set_option maxHeartbeats 8000000 in
theorem Toward_any (ax ay bx by_ n d : Int) (w : World) (h1 : -1000000 ≤ ax ∧ ax ≤ 1000000) (h2 : -1000000 ≤ ay ∧ ay ≤ 1000000) (h3 : -1000000 ≤ bx ∧ bx ≤ 1000000) (h4 : -1000000 ≤ by_ ∧ by_ ≤ 1000000) (hd : 0 < d ∧ d ≤ 200000) (hn : 0 ≤ n ∧ n ≤ d) :
  Calls Tryz.prog 79 #[.agg #[.int .i64 ax, .int .i64 ay], .agg #[.int .i64 bx, .int .i64 by_], .int .i64 n, .int .i64 d] w fun e w' => e = .returned (.tuple #[.agg #[.int .i64 (ax + (bx - ax) * n / d), .int .i64 (ay + (by_ - ay) * n / d)], .int .i64 0]) ∧ Below w.heap.size w w' := by
 have m1 := mul_bd2 (a := bx - ax) (b := n) (m := 2000000) (k := 200000) (by omega) (by omega)
 have m2 := mul_bd2 (a := by_ - ay) (b := n) (m := 2000000) (k := 200000) (by omega) (by omega)
 obtain ⟨m11, m12⟩ := m1
 obtain ⟨m21, m22⟩ := m2
 have q1 := div_bd (a := (bx - ax) * n) (b := d) (m := 400000000000) (by omega) (by omega) (by omega) (by omega)
 have q2 := div_bd (a := (by_ - ay) * n) (b := d) (m := 400000000000) (by omega) (by omega) (by omega) (by omega)
 obtain ⟨q11, q12⟩ := q1
 obtain ⟨q21, q22⟩ := q2
 have HD1 := Lib.hid (fun W => DivDown_any ((bx - ax) * n) d W (by omega) (by omega) (by omega) (by omega))
 have HD2 := Lib.hid (fun W => DivDown_any ((by_ - ay) * n) d W (by omega) (by omega) (by omega) (by omega))
 have e1 : ptE ax ay = 0 := by unfold ptE; rw [if_pos (by omega)]
 have e2 : ptE bx by_ = 0 := by unfold ptE; rw [if_pos (by omega)]
 have HP1 := Lib.hid (fun (W : World) (hb : TwF ax ay bx by_ w W) => (PCheck_any ax ay W).mono fun e W2 h => (show e = .returned (.int .i64 0) ∧ TwF ax ay bx by_ w W2 from ⟨by rw [h.1, e1], hb.on h.2⟩))
 have HP2 := Lib.hid (fun (W : World) (hb : TwF ax ay bx by_ w W) => (PCheck_any bx by_ W).mono fun e W2 h => (show e = .returned (.int .i64 0) ∧ TwF ax ay bx by_ w W2 from ⟨by rw [h.1, e2], hb.on h.2⟩))
 have tok : True := trivial
 have tokd : True := trivial
 have w1 : IntKind.i64.wrap (bx - ax) = bx - ax := IntWalk.i64_in _ (by omega)
 have w2 : IntKind.i64.wrap (by_ - ay) = by_ - ay := IntWalk.i64_in _ (by omega)
 have w3 : IntKind.i64.wrap ((bx - ax) * n) = (bx - ax) * n := IntWalk.i64_in _ (by omega)
 have w4 : IntKind.i64.wrap ((by_ - ay) * n) = (by_ - ay) * n := IntWalk.i64_in _ (by omega)
 have w5 : IntKind.i64.wrap (ax + (bx - ax) * n / d) = ax + (bx - ax) * n / d := IntWalk.i64_in _ (by omega)
 have w6 : IntKind.i64.wrap (ay + (by_ - ay) * n / d) = ay + (by_ - ay) * n / d := IntWalk.i64_in _ (by omega)
 have b1 : decide (d ≤ 0) = false := decide_eq_false (by omega)
 have b2 : decide (200000 < d) = false := decide_eq_false (by omega)
 have b3 : decide (n < 0) = false := decide_eq_false (by omega)
 have b4 : decide (d < n) = false := decide_eq_false (by omega)
 clear e1 e2 h1 h2 h3 h4 hd hn m11 m12 m21 m22 q11 q12 q21 q22
 go_enter Tryz.func79, Tryz.ntmps79
 go_wp2_with (first
  | (go_at_call 76; go_loud (first
   | (have _t := tok; refine (HP1.out _ (by exact TwF.start ax ay bx by_ w)).mono ?_; rintro e wa ⟨rfl, ha⟩; clear tok; obtain ⟨z0, y1, ⟨a0, a1⟩, ⟨b0, b1⟩, ⟨c0, c1⟩, ⟨f0, f1⟩⟩ := id ha)
   | (refine (HP2.out _ (by exact ha)).mono ?_; rintro e wb ⟨rfl, hbb⟩; obtain ⟨x0, y2, ⟨p0, p1⟩, ⟨g0, g1⟩, ⟨r0, r1⟩, ⟨s0, s1⟩⟩ := id hbb)))
  | (go_at_call 80; go_loud (first
   | (have _t := tokd; refine (HD1.out _).mono ?_; rintro e wc ⟨rfl, rfl⟩; clear tokd)
   | (refine (HD2.out _).mono ?_; rintro e wd ⟨rfl, rfl⟩))))
 have hbl : Below w.heap.size w ((wb.setCell ⟨w.heap.size + 1 + 1, 0, none⟩ (.int .i64 (ax + (bx - ax) * n / d))).setCell ⟨w.heap.size + 1 + 1, 1, none⟩ (.int .i64 (ay + (by_ - ay) * n / d))) := (y2.setCell (by show w.heap.size ≤ w.heap.size + 1 + 1; omega) _).setCell (by show w.heap.size ≤ w.heap.size + 1 + 1; omega) _
 have v0 : ((wb.setCell ⟨w.heap.size + 1 + 1, 0, none⟩ (.int .i64 (ax + (bx - ax) * n / d))).setCell ⟨w.heap.size + 1 + 1, 1, none⟩ (.int .i64 (ay + (by_ - ay) * n / d))).cell? ⟨w.heap.size + 1 + 1, 0, none⟩ = some (.int .i64 (ax + (bx - ax) * n / d)) := (set_other (.inr (by omega))).trans (World.cell?_setCell_same _ _ _ r0)
 have v1 : ((wb.setCell ⟨w.heap.size + 1 + 1, 0, none⟩ (.int .i64 (ax + (bx - ax) * n / d))).setCell ⟨w.heap.size + 1 + 1, 1, none⟩ (.int .i64 (ay + (by_ - ay) * n / d))).cell? ⟨w.heap.size + 1 + 1, 1, none⟩ = some (.int .i64 (ay + (by_ - ay) * n / d)) := World.cell?_setCell_same _ _ _ ((set_other (.inr (by omega))).trans r1)
 revert hbl v0 v1
 generalize (wb.setCell ⟨w.heap.size + 1 + 1, 0, none⟩ (.int .i64 (ax + (bx - ax) * n / d))).setCell ⟨w.heap.size + 1 + 1, 1, none⟩ (.int .i64 (ay + (by_ - ay) * n / d)) = wz
 intro hbl v0 v1
 exact bodyPost_ret (v := .tuple #[.agg #[.int .i64 (ax + (bx - ax) * n / d), .int .i64 (ay + (by_ - ay) * n / d)], .int .i64 0]) (by simp [results, Tryz.results79, go_sem, v0, v1]) rfl ⟨rfl, hbl⟩
end
section
open Go.RowKit
theorem lowT_lt {l : Tu} (h : TuOk l) {t : Int} (h1 : t ≤ lstT l) : lowT l t < l.length := by
 have hs := (lowT_spec h t).1
 refine Nat.lt_of_not_le fun hle => ?_
 have h0 := h.n0
 have := hs (l.length - 1) (by omega)
 unfold lstT at h1
 omega
theorem lowT_pos {l : Tu} (h : TuOk l) {t : Int} (h0 : fstT l ≤ t) (hne : (l[lowT l t]!).t ≠ t) (_h1 : t ≤ lstT l) : 0 < lowT l t := by
 refine Nat.pos_of_ne_zero fun e => ?_
 have hs := (lowT_spec h t).2 0 (by omega) h.n0
 rw [e] at hne
 unfold fstT at h0
 omega
def setNd (b : Nat) (q : Nd) (W : World) : World := (((((W.setCell ⟨b, 0, none⟩ (.int .i64 q.t)).setCell ⟨b, 1, none⟩ (.int .i64 q.x)).setCell ⟨b, 2, none⟩ (.int .i64 q.y)).setCell ⟨b, 3, none⟩ (.int .i64 q.h)).setCell ⟨b, 4, none⟩ (.int .i64 q.r)).setCell ⟨b, 5, none⟩ (.int .i64 q.b)
theorem NdAt.set {b : Nat} {p : Nd} {w W : World} (h : NdAt b p W) (hB : w.heap.size ≤ b) (hb : Below w.heap.size w W) (q : Nd) : NdAt b q (setNd b q W) ∧ Below w.heap.size w (setNd b q W) := by
 obtain ⟨c0, c1, c2, c3, c4, c5⟩ := h
 have o : ∀ {W : World} {i j : Nat} {u : Value}, i ≠ j → (W.setCell ⟨b, j, none⟩ u).cell? ⟨b, i, none⟩ = W.cell? ⟨b, i, none⟩ := fun h => set_other (.inr h)
 refine ⟨⟨?_, ?_, ?_, ?_, ?_, ?_⟩, (((((hb.setCell hB _).setCell hB _).setCell hB _).setCell hB _).setCell hB _).setCell hB _⟩
 ·exact (o (by omega)).trans ((o (by omega)).trans ((o (by omega)).trans ((o (by omega)).trans ((o (by omega)).trans (World.cell?_setCell_same _ _ _ c0)))))
 ·exact (o (by omega)).trans ((o (by omega)).trans ((o (by omega)).trans ((o (by omega)).trans (World.cell?_setCell_same _ _ _ ((o (by omega)).trans c1)))))
 ·exact (o (by omega)).trans ((o (by omega)).trans ((o (by omega)).trans (World.cell?_setCell_same _ _ _ ((o (by omega)).trans ((o (by omega)).trans c2)))))
 ·exact (o (by omega)).trans ((o (by omega)).trans (World.cell?_setCell_same _ _ _ ((o (by omega)).trans ((o (by omega)).trans ((o (by omega)).trans c3)))))
 ·exact (o (by omega)).trans (World.cell?_setCell_same _ _ _ ((o (by omega)).trans ((o (by omega)).trans ((o (by omega)).trans ((o (by omega)).trans c4)))))
 ·exact World.cell?_setCell_same _ _ _ ((o (by omega)).trans ((o (by omega)).trans ((o (by omega)).trans ((o (by omega)).trans ((o (by omega)).trans c5)))))
def FrN (b : Nat) (W : World) : Prop := W.frozen? ⟨b, 0, none⟩ = false ∧ W.frozen? ⟨b, 1, none⟩ = false ∧ W.frozen? ⟨b, 2, none⟩ = false ∧ W.frozen? ⟨b, 3, none⟩ = false ∧ W.frozen? ⟨b, 4, none⟩ = false ∧ W.frozen? ⟨b, 5, none⟩ = false
theorem FrN.below {b B : Nat} {W W2 : World} (h : FrN b W) (hb : Below B W W2) (hB : b < B) : FrN b W2 := by
 obtain ⟨h0, h1, h2, h3, h4, h5⟩ := h
 exact ⟨(hb.frozen (p := ⟨b, 0, none⟩) hB).trans h0, (hb.frozen (p := ⟨b, 1, none⟩) hB).trans h1, (hb.frozen (p := ⟨b, 2, none⟩) hB).trans h2, (hb.frozen (p := ⟨b, 3, none⟩) hB).trans h3, (hb.frozen (p := ⟨b, 4, none⟩) hB).trans h4, (hb.frozen (p := ⟨b, 5, none⟩) hB).trans h5⟩
theorem ret_at {q : Nd} {w W : World} {A : Act} (h : NdAt w.heap.size q W) (hb : Below w.heap.size w W) (h4 : A.tmps.getD 4 undef = .pointer (some ⟨w.heap.size, 0, none⟩)) (hd : A.defers = []) :
  bodyPost Tryz.prog Tryz.f49 (fun e w' => e = .returned (ndA q) ∧ Below w.heap.size w w') Exit.ret A W := by
 obtain ⟨r0, r1, r2, r3, r4, r5⟩ := h
 refine bodyPost_ret (v := ndA q) ?_ hd ⟨rfl, hb⟩
 unfold ndA
 simp only [Array.getD_eq_getD_getElem?] at h4
 simp [results, Tryz.results49, go_sem, r0, r1, r2, r3, r4, r5, h4]
theorem bsf_at {A : Option Addr} {n c : Nat} {l : Tu} {t : Int} {w : World} (hA : TuA A n l w) (hok : TuOk l) (h1 : t ≤ lstT l) (h0 : fstT l ≤ t) :
  Calls Tryz.prog 77 #[.slice A n c, .int .i64 t, .func (.func 78) #[] #[]] w fun e w' => e = .returned (.tuple #[.int .i64 (lowT l t : Nat), .bool (decide ((l[lowT l t]!).t = t))]) ∧ Below w.heap.size w w' := by
 have hl := hA.1
 have hn := hok.n1
 have hlt := lowT_lt hok h1
 have hsp := lowT_spec hok t
 have hn0 := hok.n0
 have t0 : -1000000 ≤ t := by have := (hok.nd 0 hn0).t0; unfold fstT at h0; omega
 have t1 : t ≤ 1000000 := by have := (hok.nd (l.length - 1) (by omega)).t1; unfold lstT at h1; omega
 have hcf : ∀ i, i < l.length → IntKind.i64.wrap ((l[i]!).t - t) = (l[i]!).t - t := fun i hi => IntWalk.i64_in _ (by have := (hok.nd i hi).t0; have := (hok.nd i hi).t1; omega)
 have hb := BsfNd_any A n c (lowT l t) (fun i => l[i]!) t (fun x => IntKind.i64.wrap (x.t - t)) w hA.2 (by omega) (by omega) (fun W x _ => atc_any x t W)
  (fun i hi => by show IntKind.i64.wrap ((l[i]!).t - t) < 0; rw [hcf i (by omega)]; have := hsp.1 i hi; omega)
  (fun i h2 h3 => by show 0 ≤ IntKind.i64.wrap ((l[i]!).t - t); rw [hcf i (by omega)]; have := hsp.2 i h2 (by omega); omega)
 refine hb.mono ?_
 rintro e w' ⟨rfl, hbl⟩
 refine ⟨?_, hbl⟩
 have e1 : (decide (lowT l t < n) && decide (IntKind.i64.wrap ((l[lowT l t]!).t - t) = 0)) = decide ((l[lowT l t]!).t = t) := by
  rw [decide_eq_true (show lowT l t < n by omega), Bool.true_and, hcf _ hlt]
  by_cases h : (l[lowT l t]!).t = t
  ·rw [decide_eq_true h]; exact decide_eq_true (by omega)
  ·rw [decide_eq_false h]; exact decide_eq_false (by omega)
 rw [← e1]
def z6 : Obj := .cells #[.int .i64 0, .int .i64 0, .int .i64 0, .int .i64 0, .int .i64 0, .int .i64 0] 52
def AtF (w W : World) : Prop := w.heap.size < W.heap.size ∧ Below w.heap.size w W ∧ (∃ q, NdAt w.heap.size q W) ∧ FrN w.heap.size W
theorem AtF.on {w W W2 : World} (h : AtF w W) (hb : Below W.heap.size W W2) : AtF w W2 := by
 obtain ⟨h0, h1, ⟨q, h2⟩, h3⟩ := h
 have := hb.size
 exact ⟨by omega, h1.trans (hb.mono h1.size), ⟨q, h2.below hb h0⟩, h3.below hb h0⟩
theorem AtF.start (w : World) : AtF w (w.alloc (.cells #[.int .i64 0, .int .i64 0, .int .i64 0, .int .i64 0, .int .i64 0, .int .i64 0] 52)) :=
 ⟨by rw [size_al]; omega, (Below.refl _ w).alloc (Nat.le_refl _) _, ⟨⟨0, 0, 0, 0, 0, 0⟩, NdAt.new ⟨0, 0, 0, 0, 0, 0⟩ w⟩, frozen_new _ _ _ _, frozen_new _ _ _ _, frozen_new _ _ _ _, frozen_new _ _ _ _, frozen_new _ _ _ _, frozen_new _ _ _ _⟩
theorem TuA.below {A : Option Addr} {n : Nat} {l : Tu} {w w' : World} (h : TuA A n l w) (hb : Below w.heap.size w w') : TuA A n l w' := ⟨h.1, (h.2.below hb).more hb.size⟩
set_option maxRecDepth 100000 in
set_option maxHeartbeats 8000000 in
theorem at_hit (A : Option Addr) (n c : Nat) (l : Tu) (t : Int) (w : World) (hA : TuA A n l w) (hok : TuOk l) (h0 : fstT l ≤ t) (h1 : t ≤ lstT l) (hit : (l[lowT l t]!).t = t) :
  Calls Tryz.prog 49 #[.slice A n c, .int .i64 t] w fun e w' => e = .returned (ndA (atN l t)) ∧ Below w.heap.size w w' := by
 have hl := hA.1
 have hlt := lowT_lt hok h1
 have hn := hok.n1
 have HR : Hid (atN l t = l[lowT l t]!) := Lib.hid (by unfold atN; rw [if_pos hit])
 rw [HR.out]
 have HS := Lib.hid (fun (W : World) (hb : AtF w W) => (bsf_at (c := c) (hA.below hb.2.1) hok h1 h0).mono fun e W2 h => (show e = .returned (.tuple #[.int .i64 (lowT l t : Nat), .bool true]) ∧ AtF w W2 from ⟨by rw [h.1, decide_eq_true hit], hb.on h.2⟩))
 obtain ⟨bb, off, rfl, hbb, hr⟩ := hA.2 (by omega)
 have HC : Hid (w.rangeAt bb (off + lowT l t * 6) (ndV l[lowT l t]!)) := Lib.hid (hr (lowT l t) (by omega))
 clear hr HR hA hok h0 h1 hit
 have l1 : ((lowT l t : Nat) : Int) < (n : Int) := by omega
 generalize lowT l t = p at *
 obtain ⟨q, hq⟩ : ∃ q, l[p]! = q := ⟨_, rfl⟩
 rw [hq] at HC ⊢
 clear hq hl hlt
 have l0 : (0 : Int) ≤ (p : Int) := by omega
 go_enter Tryz.func49, Tryz.ntmps49
 go_wp2_with (go_at_call 77; go_loud (refine (HS.out _ (by exact AtF.start w)).mono ?_; rintro e w1 ⟨rfl, z0, y1, ⟨q0, r0, r1, r2, r3, r4, r5⟩, f0, f1, f2, f3, f4, f5⟩; have d0 : w1.cell? ⟨bb, off + p * 6, none⟩ = some (.int .i64 q.t) := (y1.cell (p := ⟨bb, off + p * 6, none⟩) hbb).trans (HC.out 0 _ rfl); have d1 : w1.cell? ⟨bb, off + p * 6 + 1, none⟩ = some (.int .i64 q.x) := (y1.cell (p := ⟨bb, off + p * 6 + 1, none⟩) hbb).trans (HC.out 1 _ rfl); have d2 : w1.cell? ⟨bb, off + p * 6 + 2, none⟩ = some (.int .i64 q.y) := (y1.cell (p := ⟨bb, off + p * 6 + 2, none⟩) hbb).trans (HC.out 2 _ rfl); have d3 : w1.cell? ⟨bb, off + p * 6 + 3, none⟩ = some (.int .i64 q.h) := (y1.cell (p := ⟨bb, off + p * 6 + 3, none⟩) hbb).trans (HC.out 3 _ rfl); have d4 : w1.cell? ⟨bb, off + p * 6 + 4, none⟩ = some (.int .i64 q.r) := (y1.cell (p := ⟨bb, off + p * 6 + 4, none⟩) hbb).trans (HC.out 4 _ rfl); have d5 : w1.cell? ⟨bb, off + p * 6 + 5, none⟩ = some (.int .i64 q.b) := (y1.cell (p := ⟨bb, off + p * 6 + 5, none⟩) hbb).trans (HC.out 5 _ rfl)))
 obtain ⟨x1, x2⟩ := NdAt.set (w := w) (W := w1) ⟨r0, r1, r2, r3, r4, r5⟩ (Nat.le_refl _) y1 q
 exact ret_at x1 x2 rfl rfl
end
end Go.Proofs.YtaebebpldkciiaaGreatDoor
