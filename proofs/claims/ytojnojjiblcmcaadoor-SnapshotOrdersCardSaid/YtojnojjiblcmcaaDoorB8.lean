/- The walk of SnapshotOrders. -/
import Derived.Test.YtojnojjiblcmcaaDoorB2
import Derived.Test.YtojnojjiblcmcaaDoorB7
namespace Go.Proofs.YtojnojjiblcmcaaDoor
open Go.RowKit

theorem setR_len {l : List Rw} {t v : ByteArray} : (setR l t v).length ≤ 64 := by
  unfold setR
  by_cases h : setC l t v = 0
  · rw [if_pos h]; exact (put_fine h).len
  · rw [if_neg h]; simp

set_option maxRecDepth 100000 in
set_option maxHeartbeats 8000000 in
theorem Orders_eq (A : Option Addr) (n c : Nat) (w : World) (a v u : ByteArray) (hT : w.cell? ⟨3, 15, none⟩ = some (.int .u8 4)) (h3 : 3 < w.heap.size) :
    Calls Tryd.prog 3 #[.slice A n c, .string a, .string a, .string v, .string u] w fun e w' => e = .returned (.bool true) ∧ Below w.heap.size w w' := by
  have HF : Hid (∀ W, Below w.heap.size w W → Calls Tryd.prog 9 #[] W fun e w' => e = .returned (.bool true) ∧ Below W.heap.size W w') := Lib.hid fun W hb => Fact_any W ((hb.cell (p := ⟨3, 15, none⟩) h3).trans hT) (Nat.lt_of_lt_of_le h3 hb.size)
  clear hT h3
  go_enter Tryd.func3, Tryd.ntmps3
  go_wp2_with (first
    | (go_at_call 9; go_loud (refine (HF.out _ (Below.refl _ _)).mono ?_; rintro e w2 ⟨rfl, hb2⟩; have HB2 := Lib.hid hb2; clear hb2)))
  go_ret
  exact ⟨rfl, HB2.out⟩

set_option maxRecDepth 100000 in
set_option maxHeartbeats 8000000 in
theorem Orders_no (A : Option Addr) (n c : Nat) (l : List Rw) (w : World) (hA : Sl w w.heap.size 2 A n (fun i => rwV l[i]!)) (hl : l.length = n) (hz : ∀ x ∈ l, x.1.size ≤ maxLen ∧ x.2.size ≤ maxLen) (hn : n ≤ maxLen) (hnil : A = none → n = 0)
    (a b v u : ByteArray) (ha : a.size ≤ maxLen) (hb : b.size ≤ maxLen) (hv : v.size ≤ maxLen) (hu : u.size ≤ maxLen) (hT : w.cell? ⟨3, 15, none⟩ = some (.int .u8 4)) (h3 : 3 < w.heap.size)
    (hne : ¬ a = b) (hc : ¬ (setC l a v = 0 ∧ setC l b u = 0)) :
    Calls Tryd.prog 3 #[.slice A n c, .string a, .string b, .string v, .string u] w fun e w' => e = .returned (.bool true) ∧ Below w.heap.size w w' := by
  have HF : Hid (∀ W, Below w.heap.size w W → Calls Tryd.prog 9 #[] W fun e w' => e = .returned (.bool true) ∧ Below W.heap.size W w') := Lib.hid fun W hb => Fact_any W ((hb.cell (p := ⟨3, 15, none⟩) h3).trans hT) (Nat.lt_of_lt_of_le h3 hb.size)
  have HS1 := Lib.hid (Set_any A n c l w hA hl hz hn hnil a v ha hv)
  have HS2 : Hid (∀ W, Below w.heap.size w W → Calls Tryd.prog 10 #[.slice A n c, .string b, .string u] W (StateP (setR l b u) (setC l b u) W)) := Lib.hid fun W hbw => Set_any A n c l W ((hA.below hbw).more hbw.size) hl hz hn hnil b u hb hu
  have hab : (a.toList == b.toList) = false := by rw [ba_beq, decide_eq_false hne]
  have tok1 : True := trivial
  clear hT h3 hA hz hne
  generalize setC l a v = c1 at *
  generalize setC l b u = c2 at *
  generalize setR l a v = r1 at *
  generalize setR l b u = r2 at *
  have hor : c1 ≠ 0 ∨ c1 = 0 ∧ c2 ≠ 0 := by
    by_cases h : c1 = 0
    · exact Or.inr ⟨h, fun h2 => hc ⟨h, h2⟩⟩
    · exact Or.inl h
  clear hc
  rcases hor with hx | ⟨rfl, hx⟩
  · have hx1 : (c1 != 0) = true := by simpa using hx
    clear hx
    go_enter Tryd.func3, Tryd.ntmps3
    go_wp2_with (first
      | (go_at_call 10; have _t := tok1; go_loud (refine HS1.out.mono ?_; rintro e w1 ⟨A1, d1, he1, ho1, hb1⟩; subst he1; have HB1 := Lib.hid hb1; clear ho1 hb1 tok1))
      | (go_at_call 10; go_loud (refine (HS2.out _ HB1.out).mono ?_; rintro e w2 ⟨A2, d2, he2, ho2, hb2⟩; subst he2; have HB2 := Lib.hid (bstep HB1.out hb2); clear ho2 hb2))
      | (go_at_call 9; go_loud (refine (HF.out _ HB2.out).mono ?_; rintro e w3 ⟨rfl, hb3⟩; have HB3 := Lib.hid (bstep HB2.out hb3); clear hb3)))
    go_ret
    exact ⟨rfl, HB3.out⟩
  · have hx1 : (c2 != 0) = true := by simpa using hx
    clear hx
    go_enter Tryd.func3, Tryd.ntmps3
    go_wp2_with (first
      | (go_at_call 10; have _t := tok1; go_loud (refine HS1.out.mono ?_; rintro e w1 ⟨A1, d1, he1, ho1, hb1⟩; subst he1; have HB1 := Lib.hid hb1; clear ho1 hb1 tok1))
      | (go_at_call 10; go_loud (refine (HS2.out _ HB1.out).mono ?_; rintro e w2 ⟨A2, d2, he2, ho2, hb2⟩; subst he2; have HB2 := Lib.hid (bstep HB1.out hb2); clear ho2 hb2))
      | (go_at_call 9; go_loud (refine (HF.out _ HB2.out).mono ?_; rintro e w3 ⟨rfl, hb3⟩; have HB3 := Lib.hid (bstep HB2.out hb3); clear hb3)))
    go_ret
    exact ⟨rfl, HB3.out⟩

set_option maxRecDepth 100000 in
set_option maxHeartbeats 8000000 in
theorem Orders_yes (A : Option Addr) (n c : Nat) (l : List Rw) (w : World) (hA : Sl w w.heap.size 2 A n (fun i => rwV l[i]!)) (hl : l.length = n) (hz : ∀ x ∈ l, x.1.size ≤ maxLen ∧ x.2.size ≤ maxLen) (hn : n ≤ maxLen) (hnil : A = none → n = 0)
    (a b v u : ByteArray) (ha : a.size ≤ maxLen) (hb : b.size ≤ maxLen) (hv : v.size ≤ maxLen) (hu : u.size ≤ maxLen) (hT : w.cell? ⟨3, 15, none⟩ = some (.int .u8 4)) (h3 : 3 < w.heap.size)
    (hne : ¬ a = b) (h1 : setC l a v = 0) (h2 : setC l b u = 0) :
    Calls Tryd.prog 3 #[.slice A n c, .string a, .string b, .string v, .string u] w fun e w' => e = .returned (.bool true) ∧ Below w.heap.size w w' := by
  have HF : Hid (∀ W, Below w.heap.size w W → Calls Tryd.prog 9 #[] W fun e w' => e = .returned (.bool true) ∧ Below W.heap.size W w') := Lib.hid fun W hb => Fact_any W ((hb.cell (p := ⟨3, 15, none⟩) h3).trans hT) (Nat.lt_of_lt_of_le h3 hb.size)
  have HS1 := Lib.hid (Set_any A n c l w hA hl hz hn hnil a v ha hv)
  have HS2 : Hid (∀ W, Below w.heap.size w W → Calls Tryd.prog 10 #[.slice A n c, .string b, .string u] W (StateP (setR l b u) (setC l b u) W)) := Lib.hid fun W hbw => Set_any A n c l W ((hA.below hbw).more hbw.size) hl hz hn hnil b u hb hu
  have hab : (a.toList == b.toList) = false := by rw [ba_beq, decide_eq_false hne]
  obtain ⟨hq1, hq2⟩ := orders hne h1 h2
  have HR1 := Lib.hid (show setR l a v = putK key1 l (a, v) by unfold setR; rw [if_pos h1])
  have HR2 := Lib.hid (show setR l b u = putK key1 l (b, u) by unfold setR; rw [if_pos h2])
  have HC1 := Lib.hid h1
  have HC2 := Lib.hid h2
  have HSX := Lib.hid (small_max (put_fine h1))
  have HSY := Lib.hid (small_max (put_fine h2))
  have hlx := (put_fine h1).len
  have hly := (put_fine h2).len
  have HQ1 := Lib.hid hq1
  have HQ2 := Lib.hid hq2
  have tok1 : True := trivial
  have tok2 : True := trivial
  have tok3 : True := trivial
  clear hT h3 hA hz hne h1 h2 hq1 hq2
  generalize putK key1 l (a, v) = x at *
  generalize putK key1 l (b, u) = y at *
  have hlp : (setR x b u).length ≤ 64 := setR_len
  go_enter Tryd.func3, Tryd.ntmps3
  go_wp2_with (first
    | (go_at_call 10; have _t := tok1; go_loud (refine HS1.out.mono ?_; rintro e w1 ⟨A1, d1, he1, ho1, hb1⟩; rw [HR1.out, HC1.out] at he1; rw [HR1.out] at ho1; subst he1; have HO1 := Lib.hid (Sl_rows rwV_len ho1 rfl (by decide)); have HN1 := Lib.hid (own_nil ho1); have HB1 := Lib.hid hb1; clear ho1 hb1 tok1))
    | (go_at_call 10; have _t := tok2; go_loud (refine (HS2.out _ HB1.out).mono ?_; rintro e w2 ⟨A2, d2, he2, ho2, hb2⟩; rw [HR2.out, HC2.out] at he2; rw [HR2.out] at ho2; subst he2; have HO2 := Lib.hid (Sl_rows rwV_len ho2 rfl (by decide)); have HN2 := Lib.hid (own_nil ho2); have HB2 := Lib.hid hb2; clear ho2 hb2 tok2))
    | (go_at_call 10; have _t := tok3; go_loud (refine (Set_any A1 x.length d1 x _ ((HO1.out.below HB2.out).more HB2.out.size) rfl HSX.out (by unfold maxLen; omega) (fun h => (HN1.out h).1) b u hb hu).mono ?_; rintro e w3 ⟨A3, d3, he3, ho3, hb3⟩; have HQ1 := HQ1; have HQ2 := HQ2; generalize setR x b u = p at *; generalize setC x b u = pc at *; subst he3; have HO3 := Lib.hid (Sl_rows rwV_len ho3 rfl (by decide)); have HB3 := Lib.hid hb3; clear ho3 hb3 tok3))
    | (go_at_call 10; go_loud (refine (Set_any A2 y.length d2 y _ ((HO2.out.below HB3.out).more HB3.out.size) rfl HSY.out (by unfold maxLen; omega) (fun h => (HN2.out h).1) a v ha hv).mono ?_; rintro e w4 ⟨A4, d4, he4, ho4, hb4⟩; rw [HQ1.out, HQ2.out] at he4; rw [HQ2.out] at ho4; subst he4; have HO4 := Lib.hid (Sl_rows rwV_len ho4 rfl (by decide)); have HB4 := Lib.hid hb4; have HBw := Lib.hid (bstep HB1.out (bstep HB2.out (bstep HB3.out HB4.out))); clear ho4 hb4))
    | (go_at_call 9; go_loud (refine (HF.out _ HBw.out).mono ?_; rintro e w5 ⟨rfl, hb5⟩; have HB5 := Lib.hid hb5; have HBw5 := Lib.hid (bstep HBw.out hb5); clear hb5))
    | (go_at_call 11; go_loud (refine (Same_any A3 A4 p.length d3 d4 w5.heap.size p _ ((HO3.out.below (bstep HB4.out HB5.out)).more (Nat.le_trans HB4.out.size HB5.out.size)) ((HO4.out.below HB5.out).more HB5.out.size) (by unfold maxLen; omega)).mono ?_; rintro e w6 ⟨rfl, hb6⟩; have HB6 := Lib.hid (bstep HBw5.out hb6); clear hb6)))
  go_ret
  exact ⟨rfl, HB6.out⟩
end Go.Proofs.YtojnojjiblcmcaaDoor
