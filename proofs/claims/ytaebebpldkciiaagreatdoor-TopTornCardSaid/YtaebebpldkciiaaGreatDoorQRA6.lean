/- Package record: Decode of a text that has no entry's form. -/
import Derived.Test.YtaebebpldkciiaaGreatDoorQRA5
namespace Go.Proofs.YtaebebpldkciiaaGreatDoor
open Go.RowKit
open Go.Lib hiding intOf
theorem num_or (s : ByteArray) (c : UInt8) (hc : isDg c = false) (hs : s.size ≤ maxLen) :
  (∃ n l, n < 1000000 ∧ bl s = decDigits n ++ c :: l ∧ (mk l).size < s.size ∧ Hid (∀ W, Env W → Calls Tryz.prog 100 #[.string s, .string ⟨#[c]⟩] W fun e w' => e = .returned (.tuple #[.int .i64 (n : Int), .string (mk l), .bool true]) ∧ Below W.heap.size W w')) ∨
  (Hid (∀ n l, n < 1000000 → bl s ≠ decDigits n ++ c :: l) ∧ Hid (∀ W, Env W → Calls Tryz.prog 100 #[.string s, .string ⟨#[c]⟩] W (NoNum W))) := by
 by_cases h : ∃ n l, (decDigits n).length ≤ 6 ∧ bl s = decDigits n ++ c :: l
 ·obtain ⟨n, l, h1, h2⟩ := h
  refine .inl ⟨n, l, lt_of_nDigits6 h1, h2, ?_, Lib.hid fun W hW => number_ok s c n l W hc h2 h1 hs hW⟩
  rw [size_mk, ← size_bl, h2]; simp; omega
 ·refine .inr ⟨Lib.hid fun n l h1 h2 => h ⟨n, l, nDigits_le6 h1, h2⟩, Lib.hid fun W hW => number_no s c W (fun n l h1 h2 => h ⟨n, l, h1, h2⟩) hs hW⟩
set_option maxRecDepth 100000 in
set_option maxHeartbeats 8000000 in
theorem Decode_no (s : ByteArray) (w : World) (hf : ∀ e m r, ¬ Forms (bl s) e m r) (hs : s.size ≤ maxLen) (he : Env w) :
  Calls Tryz.prog 59 #[.string s] w (DecR zeroE 0 5 w) := by
 have HE := Lib.hid he
 have HF := Lib.hid hf
 have hsm := hs
 unfold maxLen at hs
 clear he hf
 have hB0 : Below w.heap.size w (((w.alloc (.cells #[.int .i64 0, .int .i64 0, .string ByteArray.empty, .string ByteArray.empty] 78)).alloc (.cells #[.int .i64 0, .int .i64 0, .string ByteArray.empty, .string ByteArray.empty] 78)).alloc (.cells #[.int .i64 0, .int .i64 0, .string ByteArray.empty, .string ByteArray.empty] 78)) :=
  (((Below.refl _ w).alloc (Nat.le_refl _) _).alloc (by simp) _).alloc (by simp; omega) _
 have HB0 := Lib.hid hB0
 clear hB0
 rcases num_or s 32 (by decide) hsm with ⟨n, l1, hn, e1, m1, N1⟩ | ⟨_, N1⟩
 case inr =>
  clear HF hsm
  go_enter Tryz.func59, Tryz.ntmps59
  go_wp2_with fail
  refine (N1.out _ (HE.out.below (HB0.out))).mono ?_
  rintro e w1 ⟨⟨v, xx, rfl⟩, hb1⟩
  have B1 := bstep (HB0.out) hb1
  have K1 := (kb0 w).below hb1
  obtain ⟨c1, f1⟩ := bcell hb1
  have z1 : w.heap.size + 1 + 1 < w1.heap.size := by have := hb1.size; (try simp at this); omega
  have y1 : w.heap.size < w1.heap.size := by omega
  have x1 : w.heap.size + 1 < w1.heap.size := by omega
  go_wp2
  have K7 := (K1.set 0 (.int .i64 v)).put (.int .i64 0) (.int .i64 0) (.string ByteArray.empty) (.string ByteArray.empty)
  have B7 := put4_below (bs11 B1 0 (.int .i64 v)) (.int .i64 0) (.int .i64 0) (.string ByteArray.empty) (.string ByteArray.empty)
  change bodyPost _ _ _ _ _ (put4 w (w1.setCell ⟨w.heap.size + 1 + 1, 0, none⟩ (.int .i64 v)) (.int .i64 0) (.int .i64 0) (.string ByteArray.empty) (.string ByteArray.empty))
  obtain ⟨W8, hW8⟩ : ∃ W8, put4 w (w1.setCell ⟨w.heap.size + 1 + 1, 0, none⟩ (.int .i64 v)) (.int .i64 0) (.int .i64 0) (.string ByteArray.empty) (.string ByteArray.empty) = W8 := ⟨_, rfl⟩
  rw [hW8] at K7 B7 ⊢
  have g0 := cell_of_row _ _ 0 _ _ _ K7
  have g1 := cell_of_row _ _ 1 _ _ _ K7
  have g2 := cell_of_row _ _ 2 _ _ _ K7
  have g3 := cell_of_row _ _ 3 _ _ _ K7
  refine bodyPost_ret (v := .tuple #[.agg #[.int .i64 0, .int .i64 0, .string ByteArray.empty, .string ByteArray.empty], .int .i64 0, .int .i64 5]) ?_ rfl ⟨rfl, B7⟩
  simp at g0 g1 g2 g3
  simp [results, Tryz.results59, go_sem, g0, g1, g2, g3]
 have hs1 : (mk l1).size ≤ maxLen := by omega
 obtain ⟨R1, hR1⟩ : ∃ R, mk l1 = R := ⟨_, rfl⟩
 have q1 : bl R1 = l1 := by rw [← hR1, bl_mk]
 rw [hR1] at N1 hs1 m1
 clear hR1
 rcases num_or R1 32 (by decide) hs1 with ⟨t, l2, ht, e2, m2, N2⟩ | ⟨_, N2⟩
 case inr =>
  clear HF hsm q1 e1 hs1
  go_enter Tryz.func59, Tryz.ntmps59
  go_wp2_with fail
  refine (N1.out _ (HE.out.below (HB0.out))).mono ?_
  rintro e w1 ⟨rfl, hb1⟩
  have B1 := bstep (HB0.out) hb1
  have K1 := (kb0 w).below hb1
  obtain ⟨c1, f1⟩ := bcell hb1
  have z1 : w.heap.size + 1 + 1 < w1.heap.size := by have := hb1.size; (try simp at this); omega
  have y1 : w.heap.size < w1.heap.size := by omega
  have x1 : w.heap.size + 1 < w1.heap.size := by omega
  go_wp2_with fail
  refine (N1.out _ (HE.out.below (bs11 B1 0 _))).mono ?_
  rintro e w2 ⟨rfl, hb2⟩
  have B2 := bstep (bs11 B1 0 _) hb2
  have K2 := (K1.set 0 _).below hb2
  obtain ⟨c2, f2⟩ := bcell hb2
  have z2 : w.heap.size + 1 + 1 < w2.heap.size := by have := hb2.size; (try simp at this); omega
  have y2 : w.heap.size < w2.heap.size := by omega
  have x2 : w.heap.size + 1 < w2.heap.size := by omega
  go_wp2_with fail
  refine (N2.out _ (HE.out.below (B2))).mono ?_
  rintro e w3 ⟨⟨v, xx, rfl⟩, hb3⟩
  have B3 := bstep (B2) hb3
  have K3 := (K2).below hb3
  obtain ⟨c3, f3⟩ := bcell hb3
  have z3 : w.heap.size + 1 + 1 < w3.heap.size := by have := hb3.size; (try simp at this); omega
  have y3 : w.heap.size < w3.heap.size := by omega
  have x3 : w.heap.size + 1 < w3.heap.size := by omega
  go_wp2
  have K7 := (K3.set 1 (.int .i64 v)).put (.int .i64 0) (.int .i64 0) (.string ByteArray.empty) (.string ByteArray.empty)
  have B7 := put4_below (bs11 B3 1 (.int .i64 v)) (.int .i64 0) (.int .i64 0) (.string ByteArray.empty) (.string ByteArray.empty)
  change bodyPost _ _ _ _ _ (put4 w (w3.setCell ⟨w.heap.size + 1 + 1, 1, none⟩ (.int .i64 v)) (.int .i64 0) (.int .i64 0) (.string ByteArray.empty) (.string ByteArray.empty))
  obtain ⟨W8, hW8⟩ : ∃ W8, put4 w (w3.setCell ⟨w.heap.size + 1 + 1, 1, none⟩ (.int .i64 v)) (.int .i64 0) (.int .i64 0) (.string ByteArray.empty) (.string ByteArray.empty) = W8 := ⟨_, rfl⟩
  rw [hW8] at K7 B7 ⊢
  have g0 := cell_of_row _ _ 0 _ _ _ K7
  have g1 := cell_of_row _ _ 1 _ _ _ K7
  have g2 := cell_of_row _ _ 2 _ _ _ K7
  have g3 := cell_of_row _ _ 3 _ _ _ K7
  refine bodyPost_ret (v := .tuple #[.agg #[.int .i64 0, .int .i64 0, .string ByteArray.empty, .string ByteArray.empty], .int .i64 0, .int .i64 5]) ?_ rfl ⟨rfl, B7⟩
  simp at g0 g1 g2 g3
  simp [results, Tryz.results59, go_sem, g0, g1, g2, g3]
 have hs2 : (mk l2).size ≤ maxLen := by omega
 obtain ⟨R2, hR2⟩ : ∃ R, mk l2 = R := ⟨_, rfl⟩
 have q2 : bl R2 = l2 := by rw [← hR2, bl_mk]
 rw [hR2] at N2 hs2 m2
 clear hR2
 have hge := indexByte_ge (bl R2) 32
 obtain ⟨i, hi⟩ : ∃ i, indexByte (bl R2) 32 = i := ⟨_, rfl⟩
 have I1 : Hid (∀ W, Calls Tryz.prog 101 #[.string R2, .string ⟨#[32]⟩] W fun e w' => e = .returned (.int .i64 i) ∧ W = w') := Lib.hid fun W => by have := Index_any R2 32 W; rw [hi] at this; exact this
 rw [hi] at hge
 by_cases hneg : i < 0
 ·have d1 : decide (i < 0) = true := by simp; omega
  clear HF hsm q1 e1 hs1 q2 e2 hs2 hi hge hneg
  go_enter Tryz.func59, Tryz.ntmps59
  go_wp2_with fail
  refine (N1.out _ (HE.out.below (HB0.out))).mono ?_
  rintro e w1 ⟨rfl, hb1⟩
  have B1 := bstep (HB0.out) hb1
  have K1 := (kb0 w).below hb1
  obtain ⟨c1, f1⟩ := bcell hb1
  have z1 : w.heap.size + 1 + 1 < w1.heap.size := by have := hb1.size; (try simp at this); omega
  have y1 : w.heap.size < w1.heap.size := by omega
  have x1 : w.heap.size + 1 < w1.heap.size := by omega
  go_wp2_with fail
  refine (N1.out _ (HE.out.below (bs11 B1 0 _))).mono ?_
  rintro e w2 ⟨rfl, hb2⟩
  have B2 := bstep (bs11 B1 0 _) hb2
  have K2 := (K1.set 0 _).below hb2
  obtain ⟨c2, f2⟩ := bcell hb2
  have z2 : w.heap.size + 1 + 1 < w2.heap.size := by have := hb2.size; (try simp at this); omega
  have y2 : w.heap.size < w2.heap.size := by omega
  have x2 : w.heap.size + 1 < w2.heap.size := by omega
  go_wp2_with fail
  refine (N2.out _ (HE.out.below (B2))).mono ?_
  rintro e w3 ⟨rfl, hb3⟩
  have B3 := bstep (B2) hb3
  have K3 := (K2).below hb3
  obtain ⟨c3, f3⟩ := bcell hb3
  have z3 : w.heap.size + 1 + 1 < w3.heap.size := by have := hb3.size; (try simp at this); omega
  have y3 : w.heap.size < w3.heap.size := by omega
  have x3 : w.heap.size + 1 < w3.heap.size := by omega
  go_wp2_with fail
  refine (I1.out _).mono ?_
  rintro e w31 ⟨rfl, rfl⟩
  go_wp2
  have K7 := (K3.set 1 (.int .i64 (t : Int))).put (.int .i64 0) (.int .i64 0) (.string ByteArray.empty) (.string ByteArray.empty)
  have B7 := put4_below (bs11 B3 1 (.int .i64 (t : Int))) (.int .i64 0) (.int .i64 0) (.string ByteArray.empty) (.string ByteArray.empty)
  change bodyPost _ _ _ _ _ (put4 w (w3.setCell ⟨w.heap.size + 1 + 1, 1, none⟩ (.int .i64 (t : Int))) (.int .i64 0) (.int .i64 0) (.string ByteArray.empty) (.string ByteArray.empty))
  obtain ⟨W8, hW8⟩ : ∃ W8, put4 w (w3.setCell ⟨w.heap.size + 1 + 1, 1, none⟩ (.int .i64 (t : Int))) (.int .i64 0) (.int .i64 0) (.string ByteArray.empty) (.string ByteArray.empty) = W8 := ⟨_, rfl⟩
  rw [hW8] at K7 B7 ⊢
  have g0 := cell_of_row _ _ 0 _ _ _ K7
  have g1 := cell_of_row _ _ 1 _ _ _ K7
  have g2 := cell_of_row _ _ 2 _ _ _ K7
  have g3 := cell_of_row _ _ 3 _ _ _ K7
  refine bodyPost_ret (v := .tuple #[.agg #[.int .i64 0, .int .i64 0, .string ByteArray.empty, .string ByteArray.empty], .int .i64 0, .int .i64 5]) ?_ rfl ⟨rfl, B7⟩
  simp at g0 g1 g2 g3
  simp [results, Tryz.results59, go_sem, g0, g1, g2, g3]
 obtain ⟨o, rfl⟩ : ∃ o : Nat, i = (o : Int) := ⟨i.toNat, by omega⟩
 obtain ⟨e3, e3b, e3c⟩ := indexByte_split hi
 rw [size_bl] at e3c
 have d0 : decide ((o : Int) < 0) = false := by simp
 have S1 := fun W => slice_str R2 o (by omega) hs2 W
 have S2 : ∀ W, (Instr.slice 9 (.string R2) (some (.int .i64 ((o : Int) + 1))) none none).run Tryz.prog W = .ok (.string (mk ((bl R2).drop (o + 1)))) W := fun W => drop_str R2 (o + 1) (by omega) hs2 W
 obtain ⟨kl, hkl⟩ : ∃ l, (bl R2).take o = l := ⟨_, rfl⟩
 obtain ⟨l3, hl3⟩ : ∃ l, (bl R2).drop (o + 1) = l := ⟨_, rfl⟩
 have sk : (mk kl).size ≤ R2.size := by rw [size_mk, ← hkl, List.length_take, size_bl]; omega
 have m3 : (mk l3).size < R2.size := by rw [size_mk, ← hl3, List.length_drop, size_bl]; omega
 rw [hkl] at S1 e3
 rw [hl3] at S2 e3
 obtain ⟨k, hk⟩ : ∃ R, mk kl = R := ⟨_, rfl⟩
 obtain ⟨R3, hR3⟩ : ∃ R, mk l3 = R := ⟨_, rfl⟩
 have qk : bl k = kl := by rw [← hk, bl_mk]
 have q3 : bl R3 = l3 := by rw [← hR3, bl_mk]
 rw [hk] at S1 sk
 rw [hR3] at S2 m3
 have hs3 : R3.size ≤ maxLen := by omega
 clear hk hR3 hkl hl3 hi hge hneg e3b
 rcases num_or R3 58 (by decide) hs3 with ⟨z, l4, hz, e4, m4, N3⟩ | ⟨_, N3⟩
 case inr =>
  clear HF hsm q1 e1 hs1 q2 e2 hs2 e3 qk q3 hs3
  go_enter Tryz.func59, Tryz.ntmps59
  go_wp2_with fail
  refine (N1.out _ (HE.out.below (HB0.out))).mono ?_
  rintro e w1 ⟨rfl, hb1⟩
  have B1 := bstep (HB0.out) hb1
  have K1 := (kb0 w).below hb1
  obtain ⟨c1, f1⟩ := bcell hb1
  have z1 : w.heap.size + 1 + 1 < w1.heap.size := by have := hb1.size; (try simp at this); omega
  have y1 : w.heap.size < w1.heap.size := by omega
  have x1 : w.heap.size + 1 < w1.heap.size := by omega
  go_wp2_with fail
  refine (N1.out _ (HE.out.below (bs11 B1 0 _))).mono ?_
  rintro e w2 ⟨rfl, hb2⟩
  have B2 := bstep (bs11 B1 0 _) hb2
  have K2 := (K1.set 0 _).below hb2
  obtain ⟨c2, f2⟩ := bcell hb2
  have z2 : w.heap.size + 1 + 1 < w2.heap.size := by have := hb2.size; (try simp at this); omega
  have y2 : w.heap.size < w2.heap.size := by omega
  have x2 : w.heap.size + 1 < w2.heap.size := by omega
  go_wp2_with fail
  refine (N2.out _ (HE.out.below (B2))).mono ?_
  rintro e w3 ⟨rfl, hb3⟩
  have B3 := bstep (B2) hb3
  have K3 := (K2).below hb3
  obtain ⟨c3, f3⟩ := bcell hb3
  have z3 : w.heap.size + 1 + 1 < w3.heap.size := by have := hb3.size; (try simp at this); omega
  have y3 : w.heap.size < w3.heap.size := by omega
  have x3 : w.heap.size + 1 < w3.heap.size := by omega
  go_wp2_with fail
  refine (I1.out _).mono ?_
  rintro e w31 ⟨rfl, rfl⟩
  go_wp2_with fail
  refine (N3.out _ (HE.out.below (bs11 (bs11 B3 1 _) 2 _))).mono ?_
  rintro e w4 ⟨⟨v, xx, rfl⟩, hb4⟩
  have B4 := bstep (bs11 (bs11 B3 1 _) 2 _) hb4
  have K4 := ((K3.set 1 _).set 2 _).below hb4
  obtain ⟨c4, f4⟩ := bcell hb4
  have z4 : w.heap.size + 1 + 1 < w4.heap.size := by have := hb4.size; (try simp at this); omega
  have y4 : w.heap.size < w4.heap.size := by omega
  have x4 : w.heap.size + 1 < w4.heap.size := by omega
  go_wp2
  have K7 := (K4).put (.int .i64 0) (.int .i64 0) (.string ByteArray.empty) (.string ByteArray.empty)
  have B7 := put4_below (B4) (.int .i64 0) (.int .i64 0) (.string ByteArray.empty) (.string ByteArray.empty)
  change bodyPost _ _ _ _ _ (put4 w (w4) (.int .i64 0) (.int .i64 0) (.string ByteArray.empty) (.string ByteArray.empty))
  obtain ⟨W8, hW8⟩ : ∃ W8, put4 w (w4) (.int .i64 0) (.int .i64 0) (.string ByteArray.empty) (.string ByteArray.empty) = W8 := ⟨_, rfl⟩
  rw [hW8] at K7 B7 ⊢
  have g0 := cell_of_row _ _ 0 _ _ _ K7
  have g1 := cell_of_row _ _ 1 _ _ _ K7
  have g2 := cell_of_row _ _ 2 _ _ _ K7
  have g3 := cell_of_row _ _ 3 _ _ _ K7
  refine bodyPost_ret (v := .tuple #[.agg #[.int .i64 0, .int .i64 0, .string ByteArray.empty, .string ByteArray.empty], .int .i64 0, .int .i64 5]) ?_ rfl ⟨rfl, B7⟩
  simp at g0 g1 g2 g3
  simp [results, Tryz.results59, go_sem, g0, g1, g2, g3]
 have hs4 : (mk l4).size ≤ maxLen := by omega
 obtain ⟨R4, hR4⟩ : ∃ R, mk l4 = R := ⟨_, rfl⟩
 have q4 : bl R4 = l4 := by rw [← hR4, bl_mk]
 rw [hR4] at N3 hs4 m4
 clear hR4
 have hz0 : (0 : Int) ≤ (z : Int) := by omega
 by_cases hzl : R4.size ≤ z
 ·have d1 : decide (R4.size ≤ z) = true := by simp; omega
  clear HF hsm q1 e1 hs1 q2 e2 hs2 e3 qk q3 hs3 e4 q4 hs4 hzl
  go_enter Tryz.func59, Tryz.ntmps59
  go_wp2_with fail
  refine (N1.out _ (HE.out.below (HB0.out))).mono ?_
  rintro e w1 ⟨rfl, hb1⟩
  have B1 := bstep (HB0.out) hb1
  have K1 := (kb0 w).below hb1
  obtain ⟨c1, f1⟩ := bcell hb1
  have z1 : w.heap.size + 1 + 1 < w1.heap.size := by have := hb1.size; (try simp at this); omega
  have y1 : w.heap.size < w1.heap.size := by omega
  have x1 : w.heap.size + 1 < w1.heap.size := by omega
  go_wp2_with fail
  refine (N1.out _ (HE.out.below (bs11 B1 0 _))).mono ?_
  rintro e w2 ⟨rfl, hb2⟩
  have B2 := bstep (bs11 B1 0 _) hb2
  have K2 := (K1.set 0 _).below hb2
  obtain ⟨c2, f2⟩ := bcell hb2
  have z2 : w.heap.size + 1 + 1 < w2.heap.size := by have := hb2.size; (try simp at this); omega
  have y2 : w.heap.size < w2.heap.size := by omega
  have x2 : w.heap.size + 1 < w2.heap.size := by omega
  go_wp2_with fail
  refine (N2.out _ (HE.out.below (B2))).mono ?_
  rintro e w3 ⟨rfl, hb3⟩
  have B3 := bstep (B2) hb3
  have K3 := (K2).below hb3
  obtain ⟨c3, f3⟩ := bcell hb3
  have z3 : w.heap.size + 1 + 1 < w3.heap.size := by have := hb3.size; (try simp at this); omega
  have y3 : w.heap.size < w3.heap.size := by omega
  have x3 : w.heap.size + 1 < w3.heap.size := by omega
  go_wp2_with fail
  refine (I1.out _).mono ?_
  rintro e w31 ⟨rfl, rfl⟩
  go_wp2_with fail
  refine (N3.out _ (HE.out.below (bs11 (bs11 B3 1 _) 2 _))).mono ?_
  rintro e w4 ⟨rfl, hb4⟩
  have B4 := bstep (bs11 (bs11 B3 1 _) 2 _) hb4
  have K4 := ((K3.set 1 _).set 2 _).below hb4
  obtain ⟨c4, f4⟩ := bcell hb4
  have z4 : w.heap.size + 1 + 1 < w4.heap.size := by have := hb4.size; (try simp at this); omega
  have y4 : w.heap.size < w4.heap.size := by omega
  have x4 : w.heap.size + 1 < w4.heap.size := by omega
  go_wp2
  have K7 := (K4).put (.int .i64 0) (.int .i64 0) (.string ByteArray.empty) (.string ByteArray.empty)
  have B7 := put4_below (B4) (.int .i64 0) (.int .i64 0) (.string ByteArray.empty) (.string ByteArray.empty)
  change bodyPost _ _ _ _ _ (put4 w (w4) (.int .i64 0) (.int .i64 0) (.string ByteArray.empty) (.string ByteArray.empty))
  obtain ⟨W8, hW8⟩ : ∃ W8, put4 w (w4) (.int .i64 0) (.int .i64 0) (.string ByteArray.empty) (.string ByteArray.empty) = W8 := ⟨_, rfl⟩
  rw [hW8] at K7 B7 ⊢
  have g0 := cell_of_row _ _ 0 _ _ _ K7
  have g1 := cell_of_row _ _ 1 _ _ _ K7
  have g2 := cell_of_row _ _ 2 _ _ _ K7
  have g3 := cell_of_row _ _ 3 _ _ _ K7
  refine bodyPost_ret (v := .tuple #[.agg #[.int .i64 0, .int .i64 0, .string ByteArray.empty, .string ByteArray.empty], .int .i64 0, .int .i64 5]) ?_ rfl ⟨rfl, B7⟩
  simp at g0 g1 g2 g3
  simp [results, Tryz.results59, go_sem, g0, g1, g2, g3]
 have hzl4 : z < R4.size := by omega
 obtain ⟨xl, cc, l5, hx, hxl⟩ : ∃ xl cc l5, l4 = xl ++ cc :: l5 ∧ xl.length = z := by
  have hz4 : z < l4.length := by rw [← q4, size_bl]; omega
  exact ⟨l4.take z, l4[z], l4.drop (z + 1), by rw [← List.drop_eq_getElem_cons hz4, List.take_append_drop], by rw [List.length_take]; omega⟩
 have X1 := fun W => index_str R4 z cc xl l5 (by rw [q4]; exact hx) hxl hs4 W
 have d1 : decide (R4.size ≤ z) = false := by simp; omega
 obtain ⟨cn, hcn⟩ : ∃ cn, cc.toNat = cn := ⟨_, rfl⟩
 rw [hcn] at X1
 by_cases hc59 : cn = 59
 case neg =>
  have d2 : ((cn : Int) == 59) = false := by simp; omega
  have d3 : ((cn : Int) != 59) = true := by simp; omega
  clear HF hsm q1 e1 hs1 q2 e2 hs2 e3 qk q3 hs3 e4 q4 hs4 hzl hx hxl hcn hc59
  go_enter Tryz.func59, Tryz.ntmps59
  go_wp2_with fail
  refine (N1.out _ (HE.out.below (HB0.out))).mono ?_
  rintro e w1 ⟨rfl, hb1⟩
  have B1 := bstep (HB0.out) hb1
  have K1 := (kb0 w).below hb1
  obtain ⟨c1, f1⟩ := bcell hb1
  have z1 : w.heap.size + 1 + 1 < w1.heap.size := by have := hb1.size; (try simp at this); omega
  have y1 : w.heap.size < w1.heap.size := by omega
  have x1 : w.heap.size + 1 < w1.heap.size := by omega
  go_wp2_with fail
  refine (N1.out _ (HE.out.below (bs11 B1 0 _))).mono ?_
  rintro e w2 ⟨rfl, hb2⟩
  have B2 := bstep (bs11 B1 0 _) hb2
  have K2 := (K1.set 0 _).below hb2
  obtain ⟨c2, f2⟩ := bcell hb2
  have z2 : w.heap.size + 1 + 1 < w2.heap.size := by have := hb2.size; (try simp at this); omega
  have y2 : w.heap.size < w2.heap.size := by omega
  have x2 : w.heap.size + 1 < w2.heap.size := by omega
  go_wp2_with fail
  refine (N2.out _ (HE.out.below (B2))).mono ?_
  rintro e w3 ⟨rfl, hb3⟩
  have B3 := bstep (B2) hb3
  have K3 := (K2).below hb3
  obtain ⟨c3, f3⟩ := bcell hb3
  have z3 : w.heap.size + 1 + 1 < w3.heap.size := by have := hb3.size; (try simp at this); omega
  have y3 : w.heap.size < w3.heap.size := by omega
  have x3 : w.heap.size + 1 < w3.heap.size := by omega
  go_wp2_with fail
  refine (I1.out _).mono ?_
  rintro e w31 ⟨rfl, rfl⟩
  go_wp2_with fail
  refine (N3.out _ (HE.out.below (bs11 (bs11 B3 1 _) 2 _))).mono ?_
  rintro e w4 ⟨rfl, hb4⟩
  have B4 := bstep (bs11 (bs11 B3 1 _) 2 _) hb4
  have K4 := ((K3.set 1 _).set 2 _).below hb4
  obtain ⟨c4, f4⟩ := bcell hb4
  have z4 : w.heap.size + 1 + 1 < w4.heap.size := by have := hb4.size; (try simp at this); omega
  have y4 : w.heap.size < w4.heap.size := by omega
  have x4 : w.heap.size + 1 < w4.heap.size := by omega
  go_wp2
  have K7 := (K4).put (.int .i64 0) (.int .i64 0) (.string ByteArray.empty) (.string ByteArray.empty)
  have B7 := put4_below (B4) (.int .i64 0) (.int .i64 0) (.string ByteArray.empty) (.string ByteArray.empty)
  change bodyPost _ _ _ _ _ (put4 w (w4) (.int .i64 0) (.int .i64 0) (.string ByteArray.empty) (.string ByteArray.empty))
  obtain ⟨W8, hW8⟩ : ∃ W8, put4 w (w4) (.int .i64 0) (.int .i64 0) (.string ByteArray.empty) (.string ByteArray.empty) = W8 := ⟨_, rfl⟩
  rw [hW8] at K7 B7 ⊢
  have g0 := cell_of_row _ _ 0 _ _ _ K7
  have g1 := cell_of_row _ _ 1 _ _ _ K7
  have g2 := cell_of_row _ _ 2 _ _ _ K7
  have g3 := cell_of_row _ _ 3 _ _ _ K7
  refine bodyPost_ret (v := .tuple #[.agg #[.int .i64 0, .int .i64 0, .string ByteArray.empty, .string ByteArray.empty], .int .i64 0, .int .i64 5]) ?_ rfl ⟨rfl, B7⟩
  simp at g0 g1 g2 g3
  simp [results, Tryz.results59, go_sem, g0, g1, g2, g3]
 subst hc59
 have hcc : cc = 59 := UInt8.toNat_inj.1 hcn
 subst hcc
 have S3 := fun W => slice_str R4 z (by omega) hs4 W
 rw [q4, show l4.take z = xl by rw [hx, ← hxl]; simp] at S3
 have S4 : ∀ W, (Instr.slice 9 (.string R4) (some (.int .i64 ((z : Int) + 1))) none none).run Tryz.prog W = .ok (.string (mk l5)) W := fun W => by
  have := drop_str R4 (z + 1) (by omega) hs4 W
  rw [q4, show l4.drop (z + 1) = l5 by rw [hx, ← hxl, ← List.drop_drop]; simp] at this
  exact this
 have s5 : (mk l5).size ≤ R4.size := by
  have := congrArg List.length hx
  rw [← q4, size_bl, List.length_append, List.length_cons] at this
  rw [size_mk]; omega
 have sx : (mk xl).size = z := by rw [size_mk, hxl]
 obtain ⟨x, hxx⟩ : ∃ R, mk xl = R := ⟨_, rfl⟩
 obtain ⟨R5, hR5⟩ : ∃ R, mk l5 = R := ⟨_, rfl⟩
 have qx : bl x = xl := by rw [← hxx, bl_mk]
 have q5 : bl R5 = l5 := by rw [← hR5, bl_mk]
 rw [hxx] at S3 sx
 rw [hR5] at S4 s5
 have hs5 : R5.size ≤ maxLen := by omega
 clear hxx hR5 hcn
 have hat : R4.size ≤ s.size := by omega
 rcases num_or R5 10 (by decide) hs5 with ⟨m, l6, hm, e5, m5, N4⟩ | ⟨_, N4⟩
 case inr =>
  clear HF hsm q1 e1 hs1 q2 e2 hs2 e3 qk q3 hs3 e4 q4 hs4 hzl hx hxl qx q5 hs5 sx
  go_enter Tryz.func59, Tryz.ntmps59
  go_wp2_with fail
  refine (N1.out _ (HE.out.below (HB0.out))).mono ?_
  rintro e w1 ⟨rfl, hb1⟩
  have B1 := bstep (HB0.out) hb1
  have K1 := (kb0 w).below hb1
  obtain ⟨c1, f1⟩ := bcell hb1
  have z1 : w.heap.size + 1 + 1 < w1.heap.size := by have := hb1.size; (try simp at this); omega
  have y1 : w.heap.size < w1.heap.size := by omega
  have x1 : w.heap.size + 1 < w1.heap.size := by omega
  go_wp2_with fail
  refine (N1.out _ (HE.out.below (bs11 B1 0 _))).mono ?_
  rintro e w2 ⟨rfl, hb2⟩
  have B2 := bstep (bs11 B1 0 _) hb2
  have K2 := (K1.set 0 _).below hb2
  obtain ⟨c2, f2⟩ := bcell hb2
  have z2 : w.heap.size + 1 + 1 < w2.heap.size := by have := hb2.size; (try simp at this); omega
  have y2 : w.heap.size < w2.heap.size := by omega
  have x2 : w.heap.size + 1 < w2.heap.size := by omega
  go_wp2_with fail
  refine (N2.out _ (HE.out.below (B2))).mono ?_
  rintro e w3 ⟨rfl, hb3⟩
  have B3 := bstep (B2) hb3
  have K3 := (K2).below hb3
  obtain ⟨c3, f3⟩ := bcell hb3
  have z3 : w.heap.size + 1 + 1 < w3.heap.size := by have := hb3.size; (try simp at this); omega
  have y3 : w.heap.size < w3.heap.size := by omega
  have x3 : w.heap.size + 1 < w3.heap.size := by omega
  go_wp2_with fail
  refine (I1.out _).mono ?_
  rintro e w31 ⟨rfl, rfl⟩
  go_wp2_with fail
  refine (N3.out _ (HE.out.below (bs11 (bs11 B3 1 _) 2 _))).mono ?_
  rintro e w4 ⟨rfl, hb4⟩
  have B4 := bstep (bs11 (bs11 B3 1 _) 2 _) hb4
  have K4 := ((K3.set 1 _).set 2 _).below hb4
  obtain ⟨c4, f4⟩ := bcell hb4
  have z4 : w.heap.size + 1 + 1 < w4.heap.size := by have := hb4.size; (try simp at this); omega
  have y4 : w.heap.size < w4.heap.size := by omega
  have x4 : w.heap.size + 1 < w4.heap.size := by omega
  go_wp2_with fail
  refine (N4.out _ (HE.out.below (bs11 B4 3 _))).mono ?_
  rintro e w5 ⟨⟨v, xx, rfl⟩, hb5⟩
  have B5 := bstep (bs11 B4 3 _) hb5
  have K5 := (K4.set 3 _).below hb5
  obtain ⟨c5, f5⟩ := bcell hb5
  have z5 : w.heap.size + 1 + 1 < w5.heap.size := by have := hb5.size; (try simp at this); omega
  have y5 : w.heap.size < w5.heap.size := by omega
  have x5 : w.heap.size + 1 < w5.heap.size := by omega
  go_wp2
  have K7 := (K5).put (.int .i64 0) (.int .i64 0) (.string ByteArray.empty) (.string ByteArray.empty)
  have B7 := put4_below (B5) (.int .i64 0) (.int .i64 0) (.string ByteArray.empty) (.string ByteArray.empty)
  change bodyPost _ _ _ _ _ (put4 w (w5) (.int .i64 0) (.int .i64 0) (.string ByteArray.empty) (.string ByteArray.empty))
  obtain ⟨W8, hW8⟩ : ∃ W8, put4 w (w5) (.int .i64 0) (.int .i64 0) (.string ByteArray.empty) (.string ByteArray.empty) = W8 := ⟨_, rfl⟩
  rw [hW8] at K7 B7 ⊢
  have g0 := cell_of_row _ _ 0 _ _ _ K7
  have g1 := cell_of_row _ _ 1 _ _ _ K7
  have g2 := cell_of_row _ _ 2 _ _ _ K7
  have g3 := cell_of_row _ _ 3 _ _ _ K7
  refine bodyPost_ret (v := .tuple #[.agg #[.int .i64 0, .int .i64 0, .string ByteArray.empty, .string ByteArray.empty], .int .i64 0, .int .i64 5]) ?_ rfl ⟨rfl, B7⟩
  simp at g0 g1 g2 g3
  simp [results, Tryz.results59, go_sem, g0, g1, g2, g3]
 have hwf : Wf ⟨(n : Int), (t : Int), k, x⟩ := ⟨⟨by show (-9223372036854775808 : Int) ≤ (n : Int); omega, by show (n : Int) ≤ 9223372036854775807; omega⟩, ⟨by show (-9223372036854775808 : Int) ≤ (t : Int); omega, by show (t : Int) ≤ 9223372036854775807; omega⟩, by show k.size ≤ maxLen; omega, by show x.size ≤ maxLen; omega⟩
 have hck := Lib.hid (fun W => CheckE_any _ W hwf)
 obtain ⟨ch, hch⟩ : ∃ ch, chk ⟨(n : Int), (t : Int), k, x⟩ = ch := ⟨_, rfl⟩
 rw [hch] at hck
 by_cases h0 : ch = 0
 ·exfalso
  rw [h0] at hch
  refine HF.out _ m l6 ⟨chk_ok.1 hch, hm, ?_⟩
  unfold full
  simp only [Int.toNat_natCast]
  rw [qx, hxl, qk, e1, ← q1, e2, ← q2, e3, ← q3, e4, hx, ← q5, e5]
 ·have d2 : (ch == 0) = false := by simp; exact h0
  have d3 : (ch != 0) = true := by simp; exact h0
  unfold valE at hck
  simp only at hck
  clear HF hsm q1 e1 hs1 q2 e2 hs2 e3 qk q3 hs3 e4 q4 hs4 hzl hx hxl qx q5 hs5 e5 hch h0 sx
  go_enter Tryz.func59, Tryz.ntmps59
  go_wp2_with fail
  refine (N1.out _ (HE.out.below (HB0.out))).mono ?_
  rintro e w1 ⟨rfl, hb1⟩
  have B1 := bstep (HB0.out) hb1
  have K1 := (kb0 w).below hb1
  obtain ⟨c1, f1⟩ := bcell hb1
  have z1 : w.heap.size + 1 + 1 < w1.heap.size := by have := hb1.size; (try simp at this); omega
  have y1 : w.heap.size < w1.heap.size := by omega
  have x1 : w.heap.size + 1 < w1.heap.size := by omega
  go_wp2_with fail
  refine (N1.out _ (HE.out.below (bs11 B1 0 _))).mono ?_
  rintro e w2 ⟨rfl, hb2⟩
  have B2 := bstep (bs11 B1 0 _) hb2
  have K2 := (K1.set 0 _).below hb2
  obtain ⟨c2, f2⟩ := bcell hb2
  have z2 : w.heap.size + 1 + 1 < w2.heap.size := by have := hb2.size; (try simp at this); omega
  have y2 : w.heap.size < w2.heap.size := by omega
  have x2 : w.heap.size + 1 < w2.heap.size := by omega
  go_wp2_with fail
  refine (N2.out _ (HE.out.below (B2))).mono ?_
  rintro e w3 ⟨rfl, hb3⟩
  have B3 := bstep (B2) hb3
  have K3 := (K2).below hb3
  obtain ⟨c3, f3⟩ := bcell hb3
  have z3 : w.heap.size + 1 + 1 < w3.heap.size := by have := hb3.size; (try simp at this); omega
  have y3 : w.heap.size < w3.heap.size := by omega
  have x3 : w.heap.size + 1 < w3.heap.size := by omega
  go_wp2_with fail
  refine (I1.out _).mono ?_
  rintro e w31 ⟨rfl, rfl⟩
  go_wp2_with fail
  refine (N3.out _ (HE.out.below (bs11 (bs11 B3 1 _) 2 _))).mono ?_
  rintro e w4 ⟨rfl, hb4⟩
  have B4 := bstep (bs11 (bs11 B3 1 _) 2 _) hb4
  have K4 := ((K3.set 1 _).set 2 _).below hb4
  obtain ⟨c4, f4⟩ := bcell hb4
  have z4 : w.heap.size + 1 + 1 < w4.heap.size := by have := hb4.size; (try simp at this); omega
  have y4 : w.heap.size < w4.heap.size := by omega
  have x4 : w.heap.size + 1 < w4.heap.size := by omega
  go_wp2_with fail
  refine (N4.out _ (HE.out.below (bs11 B4 3 _))).mono ?_
  rintro e w5 ⟨rfl, hb5⟩
  have B5 := bstep (bs11 B4 3 _) hb5
  have K5 := (K4.set 3 _).below hb5
  obtain ⟨c5, f5⟩ := bcell hb5
  have z5 : w.heap.size + 1 + 1 < w5.heap.size := by have := hb5.size; (try simp at this); omega
  have y5 : w.heap.size < w5.heap.size := by omega
  have x5 : w.heap.size + 1 < w5.heap.size := by omega
  go_wp2_with fail
  refine (hck.out _).mono ?_
  rintro e w6 ⟨rfl, hb6⟩
  have B6 := bstep (B5) hb6
  have K6 := (K5).below hb6
  obtain ⟨c6, f6⟩ := bcell hb6
  have z6 : w.heap.size + 1 + 1 < w6.heap.size := by have := hb6.size; (try simp at this); omega
  have y6 : w.heap.size < w6.heap.size := by omega
  have x6 : w.heap.size + 1 < w6.heap.size := by omega
  go_wp2
  have K7 := (K6).put (.int .i64 0) (.int .i64 0) (.string ByteArray.empty) (.string ByteArray.empty)
  have B7 := put4_below (B6) (.int .i64 0) (.int .i64 0) (.string ByteArray.empty) (.string ByteArray.empty)
  change bodyPost _ _ _ _ _ (put4 w (w6) (.int .i64 0) (.int .i64 0) (.string ByteArray.empty) (.string ByteArray.empty))
  obtain ⟨W8, hW8⟩ : ∃ W8, put4 w (w6) (.int .i64 0) (.int .i64 0) (.string ByteArray.empty) (.string ByteArray.empty) = W8 := ⟨_, rfl⟩
  rw [hW8] at K7 B7 ⊢
  have g0 := cell_of_row _ _ 0 _ _ _ K7
  have g1 := cell_of_row _ _ 1 _ _ _ K7
  have g2 := cell_of_row _ _ 2 _ _ _ K7
  have g3 := cell_of_row _ _ 3 _ _ _ K7
  refine bodyPost_ret (v := .tuple #[.agg #[.int .i64 0, .int .i64 0, .string ByteArray.empty, .string ByteArray.empty], .int .i64 0, .int .i64 5]) ?_ rfl ⟨rfl, B7⟩
  simp at g0 g1 g2 g3
  simp [results, Tryz.results59, go_sem, g0, g1, g2, g3]
end Go.Proofs.YtaebebpldkciiaaGreatDoor
