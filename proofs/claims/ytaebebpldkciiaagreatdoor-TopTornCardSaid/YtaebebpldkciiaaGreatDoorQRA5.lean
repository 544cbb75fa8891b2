/- Package record: Decode of a text that begins with an entry. -/
import Derived.Test.YtaebebpldkciiaaGreatDoorQRA2
import Derived.Test.YtaebebpldkciiaaGreatDoorQG12
namespace Go.Proofs.YtaebebpldkciiaaGreatDoor
open Go.RowKit
open Go.Lib hiding intOf
theorem bs {w W : World} (h : Below w.heap.size w W) (i j : Nat) (v : Value) : Below w.heap.size w (W.setCell ⟨w.heap.size + j, i, none⟩ v) :=
 h.setCell (p := ⟨w.heap.size + j, i, none⟩) (by show w.heap.size ≤ w.heap.size + j; omega) v
theorem bs11 {w W : World} (h : Below w.heap.size w W) (i : Nat) (v : Value) : Below w.heap.size w (W.setCell ⟨w.heap.size + 1 + 1, i, none⟩ v) := bs h i 2 v
theorem index_str (s : ByteArray) (k : Nat) (c : UInt8) (l r : L8) (h : bl s = l ++ c :: r) (hk : l.length = k) (_ : s.size ≤ maxLen) (W : World) : (Instr.index 9 (.string s) (.int .i64 (k : Int))).run Tryz.prog W = .ok (.int .u8 ((c.toNat : Nat) : Int)) W := by
 have hlt : k < s.size := by rw [← size_bl, h]; simp; omega
 have hc : s[k] = c := by
  have : (bl s)[k]'(by rw [size_bl]; exact hlt) = s[k] := rfl
  rw [← this]
  simp only [h]
  rw [List.getElem_append_right (by omega)]
  simp [hk]
 have h0 : (0 : Int) ≤ (k : Int) := by omega
 have h1 : (k : Int) < (s.size : Int) := by omega
 go_simp
 try rw [hc]
def DecR (e : Ent) (n c : Int) (w : World) (x : Ending) (w' : World) : Prop := x = .returned (.tuple #[valE e, .int .i64 n, .int .i64 c]) ∧ Below w.heap.size w w'
def KB (w W : World) : Prop := W.heap[w.heap.size]? = some (.cells #[.int .i64 0, .int .i64 0, .string ByteArray.empty, .string ByteArray.empty] 78 (0, 0))
theorem KB.below {w W W' : World} (h : KB w W) (hb : Below W.heap.size W W') : KB w W' := (hb.block _ (Array.getElem?_eq_some_iff.1 h).1).trans h
theorem KB.set {w W : World} (h : KB w W) (i : Nat) (v : Value) : KB w (W.setCell ⟨w.heap.size + 1 + 1, i, none⟩ v) :=
 (heap_setCell_other W ⟨w.heap.size + 1 + 1, i, none⟩ w.heap.size v (by show ¬ w.heap.size = w.heap.size + 1 + 1; omega)).trans h
def put4 (w W : World) (a b c d : Value) : World := (((W.setCell ⟨w.heap.size, 0, none⟩ a).setCell ⟨w.heap.size, 1, none⟩ b).setCell ⟨w.heap.size, 2, none⟩ c).setCell ⟨w.heap.size, 3, none⟩ d
theorem KB.put {w W : World} (h : KB w W) (a b c d : Value) : (put4 w W a b c d).heap[w.heap.size]? = some (.cells #[a, b, c, d] 78 (0, 0)) :=
 heap_setCell_same _ _ _ _ _ _ (heap_setCell_same _ _ _ _ _ _ (heap_setCell_same _ _ _ _ _ _ (heap_setCell_same _ _ _ _ _ _ h)))
theorem put4_below {w W : World} (h : Below w.heap.size w W) (a b c d : Value) : Below w.heap.size w (put4 w W a b c d) :=
 (((h.setCell (p := ⟨w.heap.size, 0, none⟩) (Nat.le_refl _) _).setCell (p := ⟨w.heap.size, 1, none⟩) (Nat.le_refl _) _).setCell (p := ⟨w.heap.size, 2, none⟩) (Nat.le_refl _) _).setCell (p := ⟨w.heap.size, 3, none⟩) (Nat.le_refl _) _
theorem kb0 (w : World) : KB w (((w.alloc (.cells #[.int .i64 0, .int .i64 0, .string ByteArray.empty, .string ByteArray.empty] 78)).alloc (.cells #[.int .i64 0, .int .i64 0, .string ByteArray.empty, .string ByteArray.empty] 78)).alloc (.cells #[.int .i64 0, .int .i64 0, .string ByteArray.empty, .string ByteArray.empty] 78)) := by
 have h0 := heap_alloc_new w (.cells #[.int .i64 0, .int .i64 0, .string ByteArray.empty, .string ByteArray.empty] 78)
 exact ((World.grownBy_alloc _ _ none).block _ (by simp; omega) (by simp)).trans (((World.grownBy_alloc _ _ none).block _ (by simp) (by simp)).trans h0)
set_option maxRecDepth 100000 in
set_option maxHeartbeats 4000000 in
theorem Decode_yes (s : ByteArray) (e : Ent) (m : Nat) (r : L8) (w : World) (hf : Forms (bl s) e m r) (hs : s.size ≤ maxLen) (he : Env w) :
  Calls Tryz.prog 59 #[.string s] w (if m = sumL (preL e) then DecR e ((s.size : Int) - (r.length : Int)) 0 w else DecR zeroE 0 13 w) := by
 obtain ⟨ho, hm, hf⟩ := hf
 have hck := Lib.hid (fun W => CheckE_any e W ho.wf)
 rw [chk_ok.2 ho] at hck
 have h1 := ho.n1; have h2 := ho.n2; have h3 := ho.t1; have h4 := ho.t2; have h5 := ho.x; have h6 := ho.k; have hkl := ho.kl
 have hpre : (bl s).take (preL e).length = preL e := by rw [hf, full_pre]; simp
 have hpl : (preL e).length ≤ s.size := by rw [← size_bl, hf, full_pre]; simp
 have hpl4 : (preL e).length + (59 :: (decDigits m ++ 10 :: r)).length = s.size := by rw [← size_bl, hf, full_pre, List.length_append]
 obtain ⟨P, hP⟩ : ∃ P, preL e = P := ⟨_, rfl⟩
 rw [hP] at hpre hpl hpl4 ⊢
 unfold full at hf
 obtain ⟨n, t, k, x⟩ := e
 simp only at h1 h2 h3 h4 h5 h6 hkl hf
 obtain ⟨n, rfl⟩ : ∃ m : Nat, n = (m : Int) := ⟨n.toNat, by omega⟩
 obtain ⟨t, rfl⟩ : ∃ m : Nat, t = (m : Int) := ⟨t.toNat, by omega⟩
 rw [Int.toNat_natCast, Int.toNat_natCast] at hf
 obtain ⟨l5, hl5⟩ : ∃ l, decDigits m ++ 10 :: r = l := ⟨_, rfl⟩
 rw [hl5] at hf hpl4
 obtain ⟨l4, hl4⟩ : ∃ l, bl x ++ 59 :: l5 = l := ⟨_, rfl⟩
 rw [hl4] at hf
 obtain ⟨l3, hl3⟩ : ∃ l, decDigits (bl x).length ++ 58 :: l4 = l := ⟨_, rfl⟩
 rw [hl3] at hf
 obtain ⟨l2, hl2⟩ : ∃ l, bl k ++ 32 :: l3 = l := ⟨_, rfl⟩
 rw [hl2] at hf
 obtain ⟨l1, hl1⟩ : ∃ l, decDigits t ++ 32 :: l2 = l := ⟨_, rfl⟩
 rw [hl1] at hf
 have z0 := congrArg List.length hf; have z1 := congrArg List.length hl1; have z2 := congrArg List.length hl2; have z3 := congrArg List.length hl3; have z4 := congrArg List.length hl4; have z5 := congrArg List.length hl5
 simp only [List.length_append, List.length_cons, size_bl] at z0 z1 z2 z3 z4 z5 hpl4
 rw [size_bl] at h5 h6 hl3
 have N1 := Lib.hid (fun W (hW : Env W) => number_ok s 32 n l1 W (by decide) hf (nDigits_le6 (by omega)) hs hW)
 have N2 := Lib.hid (fun W (hW : Env W) => number_ok (mk l1) 32 t l2 W (by decide) (by rw [bl_mk]; exact hl1.symm) (nDigits_le6 (by omega)) (by rw [size_mk]; omega) hW)
 have N3 := Lib.hid (fun W (hW : Env W) => number_ok (mk l3) 58 x.size l4 W (by decide) (by rw [bl_mk]; exact hl3.symm) (nDigits_le6 (by omega)) (by rw [size_mk]; omega) hW)
 have N4 := Lib.hid (fun W (hW : Env W) => number_ok (mk l5) 10 m r W (by decide) (by rw [bl_mk]; exact hl5.symm) (nDigits_le6 (by omega)) (by rw [size_mk]; omega) hW)
 have I1 : Hid (∀ W, Calls Tryz.prog 101 #[.string (mk l2), .string ⟨#[32]⟩] W fun e w' => e = .returned (.int .i64 (k.size : Int)) ∧ W = w') := Lib.hid fun W => by
  have := Index_any (mk l2) 32 W
  rw [bl_mk, ← hl2, indexByte_at (bl k) l3 (fun b hb e => by
   have := hkl b hb
   rw [e] at this
   revert this; decide), size_bl] at this
  rw [← hl2]; exact this
 have S1 := fun W => slice_str (mk l2) k.size (by rw [size_mk]; omega) (by rw [size_mk]; omega) W
 rw [bl_mk, ← hl2, show (bl k ++ 32 :: l3).take k.size = bl k by rw [← size_bl]; simp, mk_bl, hl2] at S1
 have S2 : ∀ W, (Instr.slice 9 (.string (mk l2)) (some (.int .i64 ((k.size : Int) + 1))) none none).run Tryz.prog W = .ok (.string (mk l3)) W := fun W => by
  have := drop_str (mk l2) (k.size + 1) (by rw [size_mk]; omega) (by rw [size_mk]; omega) W
  rw [bl_mk, show l2.drop (k.size + 1) = l3 by rw [← hl2, ← size_bl, ← List.drop_drop]; simp] at this
  exact this
 have X1 := fun W => index_str (mk l4) x.size 59 (bl x) l5 (by rw [bl_mk]; exact hl4.symm) (size_bl x) (by rw [size_mk]; omega) W
 have S3 := fun W => slice_str (mk l4) x.size (by rw [size_mk]; omega) (by rw [size_mk]; omega) W
 rw [bl_mk, ← hl4, show (bl x ++ 59 :: l5).take x.size = bl x by rw [← size_bl]; simp, mk_bl, hl4] at S3
 have S4 : ∀ W, (Instr.slice 9 (.string (mk l4)) (some (.int .i64 ((x.size : Int) + 1))) none none).run Tryz.prog W = .ok (.string (mk l5)) W := fun W => by
  have := drop_str (mk l4) (x.size + 1) (by rw [size_mk]; omega) (by rw [size_mk]; omega) W
  rw [bl_mk, show l4.drop (x.size + 1) = l5 by rw [← hl4, ← size_bl, ← List.drop_drop]; simp] at this
  exact this
 have q4 : (mk l4).size = l4.length := size_mk l4
 have qr : (mk r).size = r.length := size_mk r
 obtain ⟨R4, hR4⟩ : ∃ R, mk l4 = R := ⟨_, rfl⟩
 obtain ⟨R5, hR5⟩ : ∃ R, mk l5 = R := ⟨_, rfl⟩
 obtain ⟨R3, hR3⟩ : ∃ R, mk l3 = R := ⟨_, rfl⟩
 obtain ⟨R2, hR2⟩ : ∃ R, mk l2 = R := ⟨_, rfl⟩
 obtain ⟨R1, hR1⟩ : ∃ R, mk l1 = R := ⟨_, rfl⟩
 obtain ⟨R, hR⟩ : ∃ R, mk r = R := ⟨_, rfl⟩
 rw [hR1] at N1 N2; rw [hR2] at N2 I1 S1 S2; rw [hR3] at S2 N3; rw [hR4] at N3 X1 S3 S4 q4; rw [hR5] at S4 N4; rw [hR] at N4 qr
 have hat : (s.size : Int) - (R4.size : Int) + (x.size : Int) = (P.length : Int) := by omega
 have S5 : ∀ W, (Instr.slice 9 (.string s) none (some (.int .i64 ((s.size : Int) - (R4.size : Int) + (x.size : Int)))) none).run Tryz.prog W = .ok (.string (mk P)) W := fun W => by
  rw [hat]
  have := slice_str s P.length hpl hs W
  rw [hpre] at this
  exact this
 have hPs : P.length ≤ maxLen := by omega
 have Su := Lib.hid (fun W => Sum_any (mk P) W (by rw [size_mk]; exact hPs))
 rw [bl_mk] at Su
 obtain ⟨C, hC⟩ : ∃ C, mk P = C := ⟨_, rfl⟩
 obtain ⟨u, hu⟩ : ∃ u, sumL P = u := ⟨_, rfl⟩
 rw [hC] at S5 Su; rw [hu] at Su ⊢
 have hlt4 : x.size < R4.size := by omega
 have hle4 : R4.size ≤ s.size := by omega
 have hle : R.size ≤ s.size := by omega
 rw [← qr]
 unfold maxLen at hs
 have HE := Lib.hid he
 have hxm : x.size ≤ 120 := h5
 have hkm : k.size ≤ 8 := h6
 unfold valE at hck
 simp only at hck
 clear he hf hl1 hl2 hl3 hl4 hl5 z0 z1 z2 z3 z4 z5 hpl4 hpre hpl hP hR1 hR2 hR3 hR4 hR5 hR hC hu hat hPs hkl ho q4 qr h5 h6
 have hB0 : Below w.heap.size w (((w.alloc (.cells #[.int .i64 0, .int .i64 0, .string ByteArray.empty, .string ByteArray.empty] 78)).alloc (.cells #[.int .i64 0, .int .i64 0, .string ByteArray.empty, .string ByteArray.empty] 78)).alloc (.cells #[.int .i64 0, .int .i64 0, .string ByteArray.empty, .string ByteArray.empty] 78)) :=
  (((Below.refl _ w).alloc (Nat.le_refl _) _).alloc (by simp) _).alloc (by simp; omega) _
 have HB0 := Lib.hid hB0
 clear hB0
 by_cases hmu : m = u
 ·rw [if_pos hmu]
  subst hmu
  go_enter Tryz.func59, Tryz.ntmps59
  go_wp2_with fail
  refine (N1.out _ (HE.out.below (HB0.out))).mono ?_
  rintro e w1 ⟨rfl, hb1⟩
  have B1 := bstep (HB0.out) hb1
  obtain ⟨c1, f1⟩ := bcell hb1
  have z1 : w.heap.size + 1 + 1 < w1.heap.size := by have := hb1.size; (try simp at this); omega
  have y1 : w.heap.size < w1.heap.size := by omega
  have x1 : w.heap.size + 1 < w1.heap.size := by omega
  go_wp2_with fail
  refine (N1.out _ (HE.out.below (bs11 B1 0 _))).mono ?_
  rintro e w2 ⟨rfl, hb2⟩
  have B2 := bstep (bs11 B1 0 _) hb2
  obtain ⟨c2, f2⟩ := bcell hb2
  have z2 : w.heap.size + 1 + 1 < w2.heap.size := by have := hb2.size; (try simp at this); omega
  have y2 : w.heap.size < w2.heap.size := by omega
  have x2 : w.heap.size + 1 < w2.heap.size := by omega
  go_wp2_with fail
  refine (N2.out _ (HE.out.below (B2))).mono ?_
  rintro e w3 ⟨rfl, hb3⟩
  have B3 := bstep (B2) hb3
  obtain ⟨c3, f3⟩ := bcell hb3
  have z3 : w.heap.size + 1 + 1 < w3.heap.size := by have := hb3.size; (try simp at this); omega
  have y3 : w.heap.size < w3.heap.size := by omega
  have x3 : w.heap.size + 1 < w3.heap.size := by omega
  go_wp2_with fail
  refine (I1.out _).mono ?_
  rintro e w31 ⟨rfl, rfl⟩
  go_wp2_with fail
  refine (N3.out _ (HE.out.below (bs11 (bs11 B3 1 _) 2 _))).mono ?_
  rintro e w4 ⟨rfl, hb4⟩
  have B4 := bstep (bs11 (bs11 B3 1 _) 2 _) hb4
  obtain ⟨c4, f4⟩ := bcell hb4
  have z4 : w.heap.size + 1 + 1 < w4.heap.size := by have := hb4.size; (try simp at this); omega
  have y4 : w.heap.size < w4.heap.size := by omega
  have x4 : w.heap.size + 1 < w4.heap.size := by omega
  go_wp2_with fail
  refine (N4.out _ (HE.out.below (bs11 B4 3 _))).mono ?_
  rintro e w5 ⟨rfl, hb5⟩
  have B5 := bstep (bs11 B4 3 _) hb5
  obtain ⟨c5, f5⟩ := bcell hb5
  have z5 : w.heap.size + 1 + 1 < w5.heap.size := by have := hb5.size; (try simp at this); omega
  have y5 : w.heap.size < w5.heap.size := by omega
  have x5 : w.heap.size + 1 < w5.heap.size := by omega
  go_wp2_with fail
  refine (hck.out _).mono ?_
  rintro e w6 ⟨rfl, hb6⟩
  have B6 := bstep B5 hb6
  obtain ⟨c6, f6⟩ := bcell hb6
  have z6 : w.heap.size + 1 + 1 < w6.heap.size := by have := hb6.size; omega
  have y6 : w.heap.size < w6.heap.size := by omega
  have x6 : w.heap.size + 1 < w6.heap.size := by omega
  go_wp2_with fail
  refine (Su.out _).mono ?_
  rintro e w7 ⟨rfl, rfl⟩
  go_wp2
  have K6 : KB w w6 := ((((((((((kb0 w).below hb1).set 0 _).below hb2).below hb3).set 1 _).set 2 _).below hb4).set 3 _).below hb5).below hb6
  have K7 := K6.put (.int .i64 (n : Int)) (.int .i64 (t : Int)) (.string k) (.string x)
  have B7 := put4_below B6 (.int .i64 (n : Int)) (.int .i64 (t : Int)) (.string k) (.string x)
  change bodyPost _ _ _ _ _ (put4 w w6 (.int .i64 (n : Int)) (.int .i64 (t : Int)) (.string k) (.string x))
  obtain ⟨W8, hW8⟩ : ∃ W8, put4 w w6 (.int .i64 (n : Int)) (.int .i64 (t : Int)) (.string k) (.string x) = W8 := ⟨_, rfl⟩
  rw [hW8] at K7 B7 ⊢
  have g0 := cell_of_row _ _ 0 _ _ _ K7
  have g1 := cell_of_row _ _ 1 _ _ _ K7
  have g2 := cell_of_row _ _ 2 _ _ _ K7
  have g3 := cell_of_row _ _ 3 _ _ _ K7
  refine bodyPost_ret (v := .tuple #[.agg #[.int .i64 (n : Int), .int .i64 (t : Int), .string k, .string x], .int .i64 ((s.size : Int) - (R.size : Int)), .int .i64 0]) ?_ rfl ⟨rfl, B7⟩
  simp at g0 g1 g2 g3
  simp [results, Tryz.results59, go_sem, g0, g1, g2, g3]
 ·rw [if_neg hmu]
  go_enter Tryz.func59, Tryz.ntmps59
  go_wp2_with fail
  refine (N1.out _ (HE.out.below (HB0.out))).mono ?_
  rintro e w1 ⟨rfl, hb1⟩
  have B1 := bstep (HB0.out) hb1
  obtain ⟨c1, f1⟩ := bcell hb1
  have z1 : w.heap.size + 1 + 1 < w1.heap.size := by have := hb1.size; (try simp at this); omega
  have y1 : w.heap.size < w1.heap.size := by omega
  have x1 : w.heap.size + 1 < w1.heap.size := by omega
  go_wp2_with fail
  refine (N1.out _ (HE.out.below (bs11 B1 0 _))).mono ?_
  rintro e w2 ⟨rfl, hb2⟩
  have B2 := bstep (bs11 B1 0 _) hb2
  obtain ⟨c2, f2⟩ := bcell hb2
  have z2 : w.heap.size + 1 + 1 < w2.heap.size := by have := hb2.size; (try simp at this); omega
  have y2 : w.heap.size < w2.heap.size := by omega
  have x2 : w.heap.size + 1 < w2.heap.size := by omega
  go_wp2_with fail
  refine (N2.out _ (HE.out.below (B2))).mono ?_
  rintro e w3 ⟨rfl, hb3⟩
  have B3 := bstep (B2) hb3
  obtain ⟨c3, f3⟩ := bcell hb3
  have z3 : w.heap.size + 1 + 1 < w3.heap.size := by have := hb3.size; (try simp at this); omega
  have y3 : w.heap.size < w3.heap.size := by omega
  have x3 : w.heap.size + 1 < w3.heap.size := by omega
  go_wp2_with fail
  refine (I1.out _).mono ?_
  rintro e w31 ⟨rfl, rfl⟩
  go_wp2_with fail
  refine (N3.out _ (HE.out.below (bs11 (bs11 B3 1 _) 2 _))).mono ?_
  rintro e w4 ⟨rfl, hb4⟩
  have B4 := bstep (bs11 (bs11 B3 1 _) 2 _) hb4
  obtain ⟨c4, f4⟩ := bcell hb4
  have z4 : w.heap.size + 1 + 1 < w4.heap.size := by have := hb4.size; (try simp at this); omega
  have y4 : w.heap.size < w4.heap.size := by omega
  have x4 : w.heap.size + 1 < w4.heap.size := by omega
  go_wp2_with fail
  refine (N4.out _ (HE.out.below (bs11 B4 3 _))).mono ?_
  rintro e w5 ⟨rfl, hb5⟩
  have B5 := bstep (bs11 B4 3 _) hb5
  obtain ⟨c5, f5⟩ := bcell hb5
  have z5 : w.heap.size + 1 + 1 < w5.heap.size := by have := hb5.size; (try simp at this); omega
  have y5 : w.heap.size < w5.heap.size := by omega
  have x5 : w.heap.size + 1 < w5.heap.size := by omega
  go_wp2_with fail
  refine (hck.out _).mono ?_
  rintro e w6 ⟨rfl, hb6⟩
  have B6 := bstep B5 hb6
  obtain ⟨c6, f6⟩ := bcell hb6
  have z6 : w.heap.size + 1 + 1 < w6.heap.size := by have := hb6.size; omega
  have y6 : w.heap.size < w6.heap.size := by omega
  have x6 : w.heap.size + 1 < w6.heap.size := by omega
  go_wp2_with fail
  refine (Su.out _).mono ?_
  rintro e w7 ⟨rfl, rfl⟩
  go_wp2
  have K6 : KB w w6 := ((((((((((kb0 w).below hb1).set 0 _).below hb2).below hb3).set 1 _).set 2 _).below hb4).set 3 _).below hb5).below hb6
  have K7 := K6.put (.int .i64 0) (.int .i64 0) (.string ByteArray.empty) (.string ByteArray.empty)
  have B7 := put4_below B6 (.int .i64 0) (.int .i64 0) (.string ByteArray.empty) (.string ByteArray.empty)
  change bodyPost _ _ _ _ _ (put4 w w6 (.int .i64 0) (.int .i64 0) (.string ByteArray.empty) (.string ByteArray.empty))
  obtain ⟨W8, hW8⟩ : ∃ W8, put4 w w6 (.int .i64 0) (.int .i64 0) (.string ByteArray.empty) (.string ByteArray.empty) = W8 := ⟨_, rfl⟩
  rw [hW8] at K7 B7 ⊢
  have g0 := cell_of_row _ _ 0 _ _ _ K7
  have g1 := cell_of_row _ _ 1 _ _ _ K7
  have g2 := cell_of_row _ _ 2 _ _ _ K7
  have g3 := cell_of_row _ _ 3 _ _ _ K7
  refine bodyPost_ret (v := .tuple #[.agg #[.int .i64 0, .int .i64 0, .string ByteArray.empty, .string ByteArray.empty], .int .i64 0, .int .i64 13]) ?_ rfl ⟨rfl, B7⟩
  simp at g0 g1 g2 g3
  simp [results, Tryz.results59, go_sem, g0, g1, g2, g3]
end Go.Proofs.YtaebebpldkciiaaGreatDoor
