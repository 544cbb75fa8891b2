/- The walk of ConsoleBack. -/
import Derived.Test.YtdlifdmnfbjokaaDoorCB1
namespace Go.Proofs.YtdlifdmnfbjokaaDoor
open Go.RowKit
open Go.Lib hiding intOf

theorem good_size {c : Cm} (h : chkC c = 0) : c.call.size ≤ 8 ∧ c.fix.size ≤ 8 := by
  have g := good_of h
  refine ⟨(name_size g.call).2, ?_⟩
  cases hf : fixV (vIx c.verb) with
  | true => exact (name_size (g.fix hf)).2
  | false => rw [g.nofix hf]; decide
theorem print_size {c : Cm} (h : chkC c = 0) : (printB c).size ≤ 100 := by
  have g := good_of h
  have s1 : c.verb.size ≤ 7 := vbs_small _ (vIx_mem g.v)
  have s2 := good_size h
  have hsp : sp.size = 1 := rfl
  unfold printB headB tailB
  split
  · rename_i hn
    have hm := most_le (vIx c.verb)
    have hb := g.n0 hn
    have := itoa_len6 hb.1 (by omega)
    simp only [ByteArray.size_append, size_mk]; omega
  · split
    · simp only [ByteArray.size_append]; omega
    · simp only [ByteArray.size_append]
      have : ByteArray.empty.size = 0 := rfl
      omega

/-- Behind the second command's block. -/
def BxD (c d : Cm) (C : Nat) (w W : World) : Prop := BxC c.verb c.call c.n c.fix w W ∧ C4 C d W ∧ C < W.heap.size
theorem BxD.on {c d : Cm} {C : Nat} {w W W2 : World} (h : BxD c d C w W) (hb : Below W.heap.size W W2) : BxD c d C w W2 :=
  ⟨(h.1.1.on hb).c, h.2.1.on hb h.2.2, Nat.lt_of_lt_of_le h.2.2 hb.size⟩
theorem BxD.start {c d : Cm} {w W : World} (h : BxP c.verb c.call c.n c.fix w W) : BxD c d W.heap.size w (W.alloc (.cells #[.string d.verb, .string d.call, .int .i64 d.n, .string d.fix] 23)) :=
  ⟨(h.on ((Below.refl _ W).alloc (Nat.le_refl _) _)).c, ⟨World.cell?_alloc_new _ _ _ _, World.cell?_alloc_new _ _ _ _, World.cell?_alloc_new _ _ _ _, World.cell?_alloc_new _ _ _ _⟩, by rw [size_al]; omega⟩
theorem BxP.ne {v c : ByteArray} {n : Int} {f : ByteArray} {w W : World} (h : BxP v c n f w W) : (w.heap.size != W.heap.size) = true := by
  have := h.lt; simp; omega

set_option maxRecDepth 100000 in
set_option maxHeartbeats 8000000 in
theorem back_00 (verb call fix : ByteArray) (n : Int) (s : ByteArray) (w : World) (h1 : call.size ≤ maxLen) (h2 : fix.size ≤ maxLen) (hs : s.size ≤ 1048576) (he : Env w) (hk : chkC ⟨verb, call, n, fix⟩ = 0) (d : Cm) (hd : parseC s = (d, 0)) :
    Calls Tryd.prog 3 #[cmV ⟨verb, call, n, fix⟩, .string s] w fun e w' => e = .returned (.bool true) ∧ Below w.heap.size w w' := by
  have hps := print_size hk
  obtain ⟨t, ht⟩ : ∃ t, printB ⟨verb, call, n, fix⟩ = t := ⟨_, rfl⟩
  have hpp := parse_print hk
  rw [ht] at hps hpp
  have HPr := Lib.hid (fun (W : World) (hb : BxP verb call n fix w W) => (Print_any ⟨verb, call, n, fix⟩ W h1 h2 (he.below hb.below)).mono fun e W2 h => (show e = .returned (.tuple #[.string t, .int .i64 0]) ∧ BxC verb call n fix w W2 from ⟨by rw [h.1, Good.printC hk, ht], (hb.on h.2).c⟩))
  have HPa := Lib.hid (fun (W : World) (hb : BxP verb call n fix w W) => (Parse_any t W (by omega) (he.below hb.below)).mono fun e W2 h => (show e = .returned (.tuple #[.agg #[.string verb, .string call, .int .i64 n, .string fix], .int .i64 0]) ∧ BxC verb call n fix w W2 from ⟨by rw [h.1, hpp]; rfl, (hb.on h.2).c⟩))
  have HQ := Lib.hid (fun W => (run_eqC ⟨verb, call, n, fix⟩ ⟨verb, call, n, fix⟩ W).trans (by rw [eqC_refl]))
  have hq := HQ.out
  simp only [cmV] at hq
  obtain ⟨hd1, hd2⟩ := print_parse hd
  have hz := good_size hd1
  obtain ⟨dv, dc, dn, df⟩ := d
  have HPb := Lib.hid (fun (W : World) (hb : BxP verb call n fix w W) => (Parse_any s W (by omega) (he.below hb.below)).mono fun e W2 h => (show e = .returned (.tuple #[.agg #[.string dv, .string dc, .int .i64 dn, .string df], .int .i64 0]) ∧ BxC verb call n fix w W2 from ⟨by rw [h.1, hd]; rfl, (hb.on h.2).c⟩))
  have HPd := Lib.hid (fun (W : World) (hb : BxP verb call n fix w W) => (Print_any ⟨dv, dc, dn, df⟩ W (by have := hz.1; unfold maxLen; omega) (by have := hz.2; unfold maxLen; omega) (he.below hb.below)).mono fun e W2 h => (show e = .returned (.tuple #[.string s, .int .i64 0]) ∧ BxC verb call n fix w W2 from ⟨by rw [h.1, Good.printC hd1, hd2], (hb.on h.2).c⟩))
  have HFa := Lib.hid (fun (W : World) (hb : BxP verb call n fix w W) => (fact_any W (he.below hb.below)).mono fun e W2 h => (show e = .returned (.bool true) ∧ BxC verb call n fix w W2 from ⟨h.1, (hb.on h.2).c⟩))
  unfold cmV at HPr ⊢
  unfold cmV at HPd
  clear hk h1 h2 hs he hz hd1 hd2 hd hps ht hpp
  have tokP : True := trivial
  have tokA : True := trivial
  go_enter Tryd.func3, Tryd.ntmps3
  go_wp2_with (first
    | (go_at_call 5; go_loud (first | (have _t := tokP; refine (HPr.out _ (by exact bx_self _ _ _ _ w)).mono ?_; rintro e w1 ⟨rfl, hb1, a0, a1, a2, a3⟩; clear tokP; have l1 := hb1.lt; have m1 := hb1.ne) | (refine (HPd.out _ (by exact hb3.on ((Below.refl _ _).alloc (Nat.le_refl _) _))).mono ?_; rintro e w4 ⟨rfl, hb4, d0, d1, d2, d3⟩)))
    | (go_at_call 6; go_loud (first | (have _t := tokA; refine (HPa.out _ (by exact hb1)).mono ?_; rintro e w2 ⟨rfl, hb2, b0, b1, b2, b3⟩; clear tokA; have l2 := hb2.lt; have m2 := hb2.ne) | (refine (HPb.out _ (by exact hb2.on ((Below.refl _ _).alloc (Nat.le_refl _) _))).mono ?_; rintro e w3 ⟨rfl, hb3, c0, c1, c2, c3⟩; have l3 := hb3.lt; have m3 := hb3.ne)))
    | (go_at_call 7; go_loud (refine (HFa.out _ (by exact hb4)).mono ?_; rintro e w5 ⟨rfl, hb5, _⟩)))
  go_ret
  exact ⟨by rfl, hb5.below⟩

set_option maxRecDepth 100000 in
set_option maxHeartbeats 8000000 in
theorem back_01 (verb call fix : ByteArray) (n : Int) (s : ByteArray) (w : World) (h1 : call.size ≤ maxLen) (h2 : fix.size ≤ maxLen) (hs : s.size ≤ 1048576) (he : Env w) (hk : chkC ⟨verb, call, n, fix⟩ = 0) (hd : (parseC s).2 ≠ 0) :
    Calls Tryd.prog 3 #[cmV ⟨verb, call, n, fix⟩, .string s] w fun e w' => e = .returned (.bool true) ∧ Below w.heap.size w w' := by
  have hps := print_size hk
  obtain ⟨t, ht⟩ : ∃ t, printB ⟨verb, call, n, fix⟩ = t := ⟨_, rfl⟩
  have hpp := parse_print hk
  rw [ht] at hps hpp
  have HPr := Lib.hid (fun (W : World) (hb : BxP verb call n fix w W) => (Print_any ⟨verb, call, n, fix⟩ W h1 h2 (he.below hb.below)).mono fun e W2 h => (show e = .returned (.tuple #[.string t, .int .i64 0]) ∧ BxC verb call n fix w W2 from ⟨by rw [h.1, Good.printC hk, ht], (hb.on h.2).c⟩))
  have HPa := Lib.hid (fun (W : World) (hb : BxP verb call n fix w W) => (Parse_any t W (by omega) (he.below hb.below)).mono fun e W2 h => (show e = .returned (.tuple #[.agg #[.string verb, .string call, .int .i64 n, .string fix], .int .i64 0]) ∧ BxC verb call n fix w W2 from ⟨by rw [h.1, hpp]; rfl, (hb.on h.2).c⟩))
  have HQ := Lib.hid (fun W => (run_eqC ⟨verb, call, n, fix⟩ ⟨verb, call, n, fix⟩ W).trans (by rw [eqC_refl]))
  have hq := HQ.out
  simp only [cmV] at hq
  obtain ⟨q, hqq⟩ : ∃ q, (parseC s).2 = q := ⟨_, rfl⟩
  have hpd : parseC s = (cm0, q) := Prod.ext (parse_err hd) hqq
  rw [hqq] at hd
  have qz1 : (q == 0) = false := by simpa using hd
  have qz2 : (q != 0) = true := by simpa using hd
  have qz3 : decide (q = 0) = false := decide_eq_false hd
  have HPb := Lib.hid (fun (W : World) (hb : BxP verb call n fix w W) => (Parse_any s W (by omega) (he.below hb.below)).mono fun e W2 h => (show e = .returned (.tuple #[.agg #[.string .empty, .string .empty, .int .i64 0, .string .empty], .int .i64 q]) ∧ BxC verb call n fix w W2 from ⟨by rw [h.1, hpd]; rfl, (hb.on h.2).c⟩))
  have HFa := Lib.hid (fun (W : World) (C : Nat) (hb : BxD ⟨verb, call, n, fix⟩ cm0 C w W) => (fact_any W (he.below hb.1.1.below)).mono fun e W2 h => (show e = .returned (.bool true) ∧ BxD ⟨verb, call, n, fix⟩ cm0 C w W2 from ⟨h.1, hb.on h.2⟩))
  have HCk := Lib.hid (fun (W : World) (C : Nat) (hb : BxD ⟨verb, call, n, fix⟩ cm0 C w W) => (Check_any ⟨verb, call, n, fix⟩ W h1 h2).mono fun e W2 h => (show e = .returned (.int .i64 0) ∧ BxD ⟨verb, call, n, fix⟩ cm0 C w W2 from ⟨by rw [h.1, hk], hb.on h.2⟩))
  unfold cmV at HCk
  have HE := Lib.hid (fun W => (run_eqC cm0 cm0 W).trans (by rw [eqC_refl]))
  have heq := HE.out
  simp only [cmV, cm0] at heq
  unfold cmV at HPr ⊢
  clear hk h1 h2 hs he hqq hpd hd hps ht hpp
  have tokP : True := trivial
  have tokA : True := trivial
  go_enter Tryd.func3, Tryd.ntmps3
  go_wp2_with (first
    | (go_at_call 5; go_loud (first | (have _t := tokP; refine (HPr.out _ (by exact bx_self _ _ _ _ w)).mono ?_; rintro e w1 ⟨rfl, hb1, a0, a1, a2, a3⟩; clear tokP; have l1 := hb1.lt; have m1 := hb1.ne)))
    | (go_at_call 6; go_loud (first | (have _t := tokA; refine (HPa.out _ (by exact hb1)).mono ?_; rintro e w2 ⟨rfl, hb2, b0, b1, b2, b3⟩; clear tokA; have l2 := hb2.lt; have m2 := hb2.ne) | (refine (HPb.out _ (by exact hb2.on ((Below.refl _ _).alloc (Nat.le_refl _) _))).mono ?_; rintro e w3 ⟨rfl, hb3, c0, c1, c2, c3⟩; have l3 := hb3.lt; have m3 := hb3.ne)))
    | (go_at_call 7; go_loud (refine (HFa.out _ _ (by exact BxD.start (c := ⟨verb, call, n, fix⟩) (d := cm0) hb3)).mono ?_; rintro e w4 ⟨rfl, hx4⟩; obtain ⟨⟨hb4, d0, d1, d2, d3⟩, ⟨f0, f1, f2, f3⟩, f4⟩ := id hx4; simp only at d0 d1 d2 d3; simp only [cm0] at f0 f1 f2 f3))
    | (go_at_call 8; go_loud (refine (HCk.out _ _ (by exact hx4)).mono ?_; rintro e w5 ⟨rfl, hx5⟩; obtain ⟨⟨hb5, e0, e1, e2, e3⟩, ⟨g0, g1, g2, g3⟩, g4⟩ := id hx5; simp only at e0 e1 e2 e3; simp only [cm0] at g0 g1 g2 g3)))
  go_ret
  exact ⟨by rfl, hb5.below⟩

set_option maxRecDepth 100000 in
set_option maxHeartbeats 8000000 in
theorem back_10 (verb call fix : ByteArray) (n : Int) (s : ByteArray) (w : World) (h1 : call.size ≤ maxLen) (h2 : fix.size ≤ maxLen) (hs : s.size ≤ 1048576) (he : Env w) (hk : chkC ⟨verb, call, n, fix⟩ ≠ 0) (d : Cm) (hd : parseC s = (d, 0)) :
    Calls Tryd.prog 3 #[cmV ⟨verb, call, n, fix⟩, .string s] w fun e w' => e = .returned (.bool true) ∧ Below w.heap.size w w' := by
  obtain ⟨k, hkk⟩ : ∃ k, chkC ⟨verb, call, n, fix⟩ = k := ⟨_, rfl⟩
  have hpc : printC ⟨verb, call, n, fix⟩ = (.empty, k) := by unfold printC; rw [if_neg hk, hkk]
  have HPr := Lib.hid (fun (W : World) (hb : BxP verb call n fix w W) => (Print_any ⟨verb, call, n, fix⟩ W h1 h2 (he.below hb.below)).mono fun e W2 h => (show e = .returned (.tuple #[.string .empty, .int .i64 k]) ∧ BxC verb call n fix w W2 from ⟨by rw [h.1, hpc], (hb.on h.2).c⟩))
  rw [hkk] at hk
  have kz1 : (k == 0) = false := by simpa using hk
  have kz2 : (k != 0) = true := by simpa using hk
  have kz3 : decide (k = 0) = false := decide_eq_false hk
  obtain ⟨hd1, hd2⟩ := print_parse hd
  have hz := good_size hd1
  obtain ⟨dv, dc, dn, df⟩ := d
  have HPb := Lib.hid (fun (W : World) (hb : BxP verb call n fix w W) => (Parse_any s W (by omega) (he.below hb.below)).mono fun e W2 h => (show e = .returned (.tuple #[.agg #[.string dv, .string dc, .int .i64 dn, .string df], .int .i64 0]) ∧ BxC verb call n fix w W2 from ⟨by rw [h.1, hd]; rfl, (hb.on h.2).c⟩))
  have HPd := Lib.hid (fun (W : World) (hb : BxP verb call n fix w W) => (Print_any ⟨dv, dc, dn, df⟩ W (by have := hz.1; unfold maxLen; omega) (by have := hz.2; unfold maxLen; omega) (he.below hb.below)).mono fun e W2 h => (show e = .returned (.tuple #[.string s, .int .i64 0]) ∧ BxC verb call n fix w W2 from ⟨by rw [h.1, Good.printC hd1, hd2], (hb.on h.2).c⟩))
  have HFa := Lib.hid (fun (W : World) (hb : BxP verb call n fix w W) => (fact_any W (he.below hb.below)).mono fun e W2 h => (show e = .returned (.bool true) ∧ BxC verb call n fix w W2 from ⟨h.1, (hb.on h.2).c⟩))
  unfold cmV at HPr ⊢
  unfold cmV at HPd
  clear hk h1 h2 hs he hz hd1 hd2 hd hkk hpc
  have tokP : True := trivial
  go_enter Tryd.func3, Tryd.ntmps3
  go_wp2_with (first
    | (go_at_call 5; go_loud (first | (have _t := tokP; refine (HPr.out _ (by exact bx_self _ _ _ _ w)).mono ?_; rintro e w1 ⟨rfl, hb1, a0, a1, a2, a3⟩; clear tokP; have l1 := hb1.lt; have m1 := hb1.ne) | (refine (HPd.out _ (by exact hb3.on ((Below.refl _ _).alloc (Nat.le_refl _) _))).mono ?_; rintro e w4 ⟨rfl, hb4, d0, d1, d2, d3⟩)))
    | (go_at_call 6; go_loud ((refine (HPb.out _ (by exact hb1)).mono ?_; rintro e w3 ⟨rfl, hb3, c0, c1, c2, c3⟩; have l3 := hb3.lt; have m3 := hb3.ne)))
    | (go_at_call 7; go_loud (refine (HFa.out _ (by exact hb4)).mono ?_; rintro e w5 ⟨rfl, hb5, _⟩)))
  go_ret
  exact ⟨by rfl, hb5.below⟩

set_option maxRecDepth 100000 in
set_option maxHeartbeats 8000000 in
theorem back_11 (verb call fix : ByteArray) (n : Int) (s : ByteArray) (w : World) (h1 : call.size ≤ maxLen) (h2 : fix.size ≤ maxLen) (hs : s.size ≤ 1048576) (he : Env w) (hk : chkC ⟨verb, call, n, fix⟩ ≠ 0) (hd : (parseC s).2 ≠ 0) :
    Calls Tryd.prog 3 #[cmV ⟨verb, call, n, fix⟩, .string s] w fun e w' => e = .returned (.bool true) ∧ Below w.heap.size w w' := by
  obtain ⟨k, hkk⟩ : ∃ k, chkC ⟨verb, call, n, fix⟩ = k := ⟨_, rfl⟩
  have hpc : printC ⟨verb, call, n, fix⟩ = (.empty, k) := by unfold printC; rw [if_neg hk, hkk]
  have HPr := Lib.hid (fun (W : World) (hb : BxP verb call n fix w W) => (Print_any ⟨verb, call, n, fix⟩ W h1 h2 (he.below hb.below)).mono fun e W2 h => (show e = .returned (.tuple #[.string .empty, .int .i64 k]) ∧ BxC verb call n fix w W2 from ⟨by rw [h.1, hpc], (hb.on h.2).c⟩))
  rw [hkk] at hk
  have kz1 : (k == 0) = false := by simpa using hk
  have kz2 : (k != 0) = true := by simpa using hk
  have kz3 : decide (k = 0) = false := decide_eq_false hk
  obtain ⟨q, hqq⟩ : ∃ q, (parseC s).2 = q := ⟨_, rfl⟩
  have hpd : parseC s = (cm0, q) := Prod.ext (parse_err hd) hqq
  rw [hqq] at hd
  have qz1 : (q == 0) = false := by simpa using hd
  have qz2 : (q != 0) = true := by simpa using hd
  have qz3 : decide (q = 0) = false := decide_eq_false hd
  have HPb := Lib.hid (fun (W : World) (hb : BxP verb call n fix w W) => (Parse_any s W (by omega) (he.below hb.below)).mono fun e W2 h => (show e = .returned (.tuple #[.agg #[.string .empty, .string .empty, .int .i64 0, .string .empty], .int .i64 q]) ∧ BxC verb call n fix w W2 from ⟨by rw [h.1, hpd]; rfl, (hb.on h.2).c⟩))
  have HFa := Lib.hid (fun (W : World) (C : Nat) (hb : BxD ⟨verb, call, n, fix⟩ cm0 C w W) => (fact_any W (he.below hb.1.1.below)).mono fun e W2 h => (show e = .returned (.bool true) ∧ BxD ⟨verb, call, n, fix⟩ cm0 C w W2 from ⟨h.1, hb.on h.2⟩))
  have HCk := Lib.hid (fun (W : World) (C : Nat) (hb : BxD ⟨verb, call, n, fix⟩ cm0 C w W) => (Check_any ⟨verb, call, n, fix⟩ W h1 h2).mono fun e W2 h => (show e = .returned (.int .i64 k) ∧ BxD ⟨verb, call, n, fix⟩ cm0 C w W2 from ⟨by rw [h.1, hkk], hb.on h.2⟩))
  unfold cmV at HCk
  have HE := Lib.hid (fun W => (run_eqC cm0 cm0 W).trans (by rw [eqC_refl]))
  have heq := HE.out
  simp only [cmV, cm0] at heq
  unfold cmV at HPr ⊢
  clear hk h1 h2 hs he hqq hpd hd hkk hpc
  have tokP : True := trivial
  go_enter Tryd.func3, Tryd.ntmps3
  go_wp2_with (first
    | (go_at_call 5; go_loud (first | (have _t := tokP; refine (HPr.out _ (by exact bx_self _ _ _ _ w)).mono ?_; rintro e w1 ⟨rfl, hb1, a0, a1, a2, a3⟩; clear tokP; have l1 := hb1.lt; have m1 := hb1.ne)))
    | (go_at_call 6; go_loud ((refine (HPb.out _ (by exact hb1)).mono ?_; rintro e w3 ⟨rfl, hb3, c0, c1, c2, c3⟩; have l3 := hb3.lt; have m3 := hb3.ne)))
    | (go_at_call 7; go_loud (refine (HFa.out _ _ (by exact BxD.start (c := ⟨verb, call, n, fix⟩) (d := cm0) hb3)).mono ?_; rintro e w4 ⟨rfl, hx4⟩; obtain ⟨⟨hb4, d0, d1, d2, d3⟩, ⟨f0, f1, f2, f3⟩, f4⟩ := id hx4; simp only at d0 d1 d2 d3; simp only [cm0] at f0 f1 f2 f3))
    | (go_at_call 8; go_loud (refine (HCk.out _ _ (by exact hx4)).mono ?_; rintro e w5 ⟨rfl, hx5⟩; obtain ⟨⟨hb5, e0, e1, e2, e3⟩, ⟨g0, g1, g2, g3⟩, g4⟩ := id hx5; simp only at e0 e1 e2 e3; simp only [cm0] at g0 g1 g2 g3)))
  go_ret
  exact ⟨by rfl, hb5.below⟩

/-- ConsoleBack returns true. -/
theorem Back_walk (c : Cm) (s : ByteArray) (w : World) (h1 : c.call.size ≤ maxLen) (h2 : c.fix.size ≤ maxLen) (hs : s.size ≤ 1048576) (he : Env w) :
    Calls Tryd.prog 3 #[cmV c, .string s] w fun e w' => e = .returned (.bool true) ∧ Below w.heap.size w w' := by
  obtain ⟨verb, call, n, fix⟩ := c
  by_cases hk : chkC ⟨verb, call, n, fix⟩ = 0
  · by_cases hd : (parseC s).2 = 0
    · exact back_00 verb call fix n s w h1 h2 hs he hk (parseC s).1 (Prod.ext rfl hd)
    · exact back_01 verb call fix n s w h1 h2 hs he hk hd
  · by_cases hd : (parseC s).2 = 0
    · exact back_10 verb call fix n s w h1 h2 hs he hk (parseC s).1 (Prod.ext rfl hd)
    · exact back_11 verb call fix n s w h1 h2 hs he hk hd
end Go.Proofs.YtdlifdmnfbjokaaDoor
