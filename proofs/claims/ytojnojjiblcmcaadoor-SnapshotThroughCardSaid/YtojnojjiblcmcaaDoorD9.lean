/- Package snapshot: the walk of SnapshotThrough where a state is not sound. -/
import Derived.Test.YtojnojjiblcmcaaDoorD7
namespace Go.Proofs.YtojnojjiblcmcaaDoor
open Go.RowKit

set_option maxRecDepth 100000 in
set_option maxHeartbeats 4000000 in
theorem Through_good (A B C : Option Addr) (n p q c d f : Nat) (a b e : List Rw) (w : World) (ha : StAt a A n w) (hb : StAt b B p w) (hc : StAt e C q w) (hv : EnvS w) (fa : Fine a) (fb : Fine b) (fe : Fine e) :
    Calls Tryd.prog 8 #[.slice A n c, .slice B p d, .slice C q f] w fun v w' => v = .returned (.bool true) ∧ Below w.heap.size w w' := by
  have hD1 := fun (W : World) (hW : Below w.heap.size w W) => Diff_at A B n p c d a b W (ha.below hW) (hb.below hW)
  have hD2 := fun (W : World) (hW : Below w.heap.size w W) => Diff_at B C p q d f b e W (hb.below hW) (hc.below hW)
  have hD3 := fun (W : World) (hW : Below w.heap.size w W) => Diff_at A C n q c f a e W (ha.below hW) (hc.below hW)
  have l1 := diffR_len (a := a) (b := b)
  have l2 := diffR_len (a := b) (b := e)
  have l3 := diffR_len (a := a) (b := e)
  have p1 : applyC a (diffR a b ++ diffR b e) = (e, 0) := by
    rw [diffR_good fa fb, diffR_good fb fe, applyC_append _ _ _ _ (apply_diff (keysD_ok fa fb) fa fb)]
    exact apply_diff (keysD_ok fb fe) fb fe
  have p3 : applyC a (diffR a e) = (e, 0) := by
    rw [diffR_good fa fe]
    exact apply_diff (keysD_ok fa fe) fa fe
  rw [diffC_zero.2 ⟨fa, fb⟩] at hD1
  rw [diffC_zero.2 ⟨fb, fe⟩] at hD2
  rw [diffC_zero.2 ⟨fa, fe⟩] at hD3
  generalize diffR a b = d1 at *
  generalize diffR b e = d2 at *
  generalize diffR a e = d3 at *
  have HD1 := Lib.hid hD1
  have HD2 := Lib.hid hD2
  have HD3 := Lib.hid hD3
  have P1 := Lib.hid p1
  have P3 := Lib.hid p3
  have HA := Lib.hid ha
  have HC := Lib.hid hc
  have HFa := Lib.hid fa
  have HFe := Lib.hid fe
  have HV := Lib.hid hv
  have HL1 := Lib.hid l1
  have HL2 := Lib.hid l2
  have HL3 := Lib.hid l3
  obtain ⟨n1, hn1⟩ : ∃ x, d1.length = x := ⟨_, rfl⟩
  obtain ⟨n2, hn2⟩ : ∃ x, d2.length = x := ⟨_, rfl⟩
  obtain ⟨n3, hn3⟩ : ∃ x, d3.length = x := ⟨_, rfl⟩
  rw [hn1] at HD1 HL1
  rw [hn2] at HD2 HL2
  rw [hn3] at HD3 HL3
  have hle := ha.le
  clear hD1 hD2 hD3 p1 p3 ha hb hc fa fb fe hv hn1 hn2 hn3 l1 l2 l3
  go_enter Tryd.func8, Tryd.ntmps8
  go_wp2_with (first
    | (have _h := B9; go_at_call 11; go_loud (refine (Same_yes X1 C e.length q k1 f e _ (S1.out.below B59) (HC.out.below B9)).mono ?_; rintro v w10 ⟨rfl, hb10⟩; have B10 := bstep B9 hb10))
    | (have _h := B8; go_at_call 11; go_loud (refine (Same_yes X1 X2 e.length e.length k1 k2 e _ (S1.out.below B58) (S2.out.below hb8)).mono ?_; rintro v w9 ⟨rfl, hb9⟩; have B9 := bstep B8 hb9; have B59 := bstep B58 hb9))
    | (have _h := B7; go_at_call 9; go_loud (refine (Fact_any _ (HV.out.below B7).tab (HV.out.below B7).big).mono ?_; rintro v w8 ⟨rfl, hb8⟩; have B8 := bstep B7 hb8; have B58 := bstep hb7 hb8))
    | (have _h := B6; go_at_call 20; go_loud (refine (Apply_at A E3 n n3 c g3 a e d3 _ (HA.out.below B6) HFa.out (C3.out.below B36) (by have := HL3.out; omega) P3.out HFe.out).mono ?_; rintro v w7 ⟨X2, k2, rfl, s7, hb7⟩; have S2 := Lib.hid s7; clear s7; have B7 := bstep B6 hb7))
    | (have _h := B5; go_at_call 20; go_loud (refine (Apply_at A E4 n (n1 + n2) c g4 a e (d1 ++ d2) _ (HA.out.below B5) HFa.out C4.out (by have := HL1.out; have := HL2.out; omega) P1.out HFe.out).mono ?_; rintro v w6 ⟨X1, k1, rfl, s6, hb6⟩; have S1 := Lib.hid s6; clear s6; have B6 := bstep B5 hb6; have B36 := bstep B35 hb6))
    | (have _h := B3; go_at_call 22; go_loud (refine (Concat_at w3.heap.size E1 E2 n1 n2 g1 g2 d1 d2 _ (heap_alloc_new w3 _) ((C1.out.below (bstep hb2 hb3)).below ((Below.refl _ _).alloc (Nat.le_refl _) _)) ((C2.out.below hb3).below ((Below.refl _ _).alloc (Nat.le_refl _) _)) HL1.out HL2.out).mono ?_; rintro v w5 ⟨E4, g4, rfl, s5, hb5⟩; have C4 := Lib.hid s5; clear s5; have B35 := bstep ((Below.refl w3.heap.size w3).alloc (Nat.le_refl _) _) hb5; have B5 := bstep B3 B35))
    | (have _h := B2; go_at_call 19; go_loud (refine (HD3.out _ B2).mono ?_; rintro v w3 ⟨E3, g3, rfl, s3, hb3⟩; have C3 := Lib.hid s3; clear s3; have B3 := bstep B2 hb3))
    | (have _h := B1; go_at_call 19; go_loud (refine (HD2.out _ B1).mono ?_; rintro v w2 ⟨E2, g2, rfl, s2, hb2⟩; have C2 := Lib.hid s2; clear s2; have B2 := bstep B1 hb2))
    | (go_at_call 19; go_loud (refine (HD1.out _ (Below.refl _ _)).mono ?_; rintro v w1 ⟨E1, g1, rfl, s1, B1⟩; have C1 := Lib.hid s1; clear s1)))
  go_ret
  exact ⟨rfl, B10⟩
end Go.Proofs.YtojnojjiblcmcaaDoor

namespace Go.Proofs.YtojnojjiblcmcaaDoor
open Go.RowKit

set_option maxRecDepth 100000 in
set_option maxHeartbeats 4000000 in
theorem Through_bad (A B C : Option Addr) (n p q c d f : Nat) (a b e : List Rw) (w : World) (ha : StAt a A n w) (hb : StAt b B p w) (hc : StAt e C q w) (hv : EnvS w) (h : ¬ (Fine a ∧ Fine b ∧ Fine e)) :
    Calls Tryd.prog 8 #[.slice A n c, .slice B p d, .slice C q f] w fun v w' => v = .returned (.bool true) ∧ Below w.heap.size w w' := by
  have hD1 := fun (W : World) (hW : Below w.heap.size w W) => Diff_at A B n p c d a b W (ha.below hW) (hb.below hW)
  have hD2 := fun (W : World) (hW : Below w.heap.size w W) => Diff_at B C p q d f b e W (hb.below hW) (hc.below hW)
  have hD3 := fun (W : World) (hW : Below w.heap.size w W) => Diff_at A C n q c f a e W (ha.below hW) (hc.below hW)
  have hne : ¬ (diffC a b = 0 ∧ diffC b e = 0) := by
    rw [diffC_zero, diffC_zero]
    rintro ⟨⟨h1, h2⟩, _, h3⟩
    exact h ⟨h1, h2, h3⟩
  generalize (diffR a b).length = n1 at *
  generalize (diffR b e).length = n2 at *
  generalize (diffR a e).length = n3 at *
  generalize diffC a b = c1 at *
  generalize diffC b e = c2 at *
  generalize diffC a e = c3 at *
  have HD1 := Lib.hid hD1
  have HD2 := Lib.hid hD2
  have HD3 := Lib.hid hD3
  have HV := Lib.hid hv
  clear hD1 hD2 hD3 ha hb hc hv h
  by_cases z1 : c1 = 0
  · have z2 : c2 ≠ 0 := fun e => hne ⟨z1, e⟩
    have t2 : (c2 != 0) = true := by simpa using z2
    subst z1
    clear hne z2
    go_enter Tryd.func8, Tryd.ntmps8
    go_wp2_with (first
      | (have _h := B3; go_at_call 9; go_loud (refine (Fact_any _ (HV.out.below B3).tab (HV.out.below B3).big).mono ?_; rintro v w8 ⟨rfl, hb8⟩; have B8 := bstep B3 hb8))
      | (have _h := B2; go_at_call 19; go_loud (refine (HD3.out _ B2).mono ?_; rintro v w3 ⟨E3, g3, rfl, s3, hb3⟩; clear s3; have B3 := bstep B2 hb3))
      | (have _h := B1; go_at_call 19; go_loud (refine (HD2.out _ B1).mono ?_; rintro v w2 ⟨E2, g2, rfl, s2, hb2⟩; clear s2; have B2 := bstep B1 hb2))
      | (go_at_call 19; go_loud (refine (HD1.out _ (Below.refl _ _)).mono ?_; rintro v w1 ⟨E1, g1, rfl, s1, B1⟩; clear s1)))
    go_ret
    exact ⟨rfl, B8⟩
  · have t1 : (c1 != 0) = true := by simpa using z1
    clear hne z1
    go_enter Tryd.func8, Tryd.ntmps8
    go_wp2_with (first
      | (have _h := B3; go_at_call 9; go_loud (refine (Fact_any _ (HV.out.below B3).tab (HV.out.below B3).big).mono ?_; rintro v w8 ⟨rfl, hb8⟩; have B8 := bstep B3 hb8))
      | (have _h := B2; go_at_call 19; go_loud (refine (HD3.out _ B2).mono ?_; rintro v w3 ⟨E3, g3, rfl, s3, hb3⟩; clear s3; have B3 := bstep B2 hb3))
      | (have _h := B1; go_at_call 19; go_loud (refine (HD2.out _ B1).mono ?_; rintro v w2 ⟨E2, g2, rfl, s2, hb2⟩; clear s2; have B2 := bstep B1 hb2))
      | (go_at_call 19; go_loud (refine (HD1.out _ (Below.refl _ _)).mono ?_; rintro v w1 ⟨E1, g1, rfl, s1, B1⟩; clear s1)))
    go_ret
    exact ⟨rfl, B8⟩

theorem Through_walk (A B C : Option Addr) (n p q c d f : Nat) (a b e : List Rw) (w : World) (ha : StAt a A n w) (hb : StAt b B p w) (hc : StAt e C q w) (hv : EnvS w) :
    Calls Tryd.prog 8 #[.slice A n c, .slice B p d, .slice C q f] w fun v w' => v = .returned (.bool true) ∧ Below w.heap.size w w' := by
  by_cases h : Fine a ∧ Fine b ∧ Fine e
  · exact Through_good A B C n p q c d f a b e w ha hb hc hv h.1 h.2.1 h.2.2
  · exact Through_bad A B C n p q c d f a b e w ha hb hc hv h
end Go.Proofs.YtojnojjiblcmcaaDoor
