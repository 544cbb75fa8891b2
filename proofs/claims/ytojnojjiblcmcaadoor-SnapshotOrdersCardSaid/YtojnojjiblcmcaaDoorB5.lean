/- SnapshotGets, Set accepts, other differs -/
import Derived.Test.YtojnojjiblcmcaaDoorB3
namespace Go.Proofs.YtojnojjiblcmcaaDoor
open Go.RowKit

set_option maxRecDepth 100000 in
set_option maxHeartbeats 40000000 in
theorem Gets_ne (A : Option Addr) (n c : Nat) (l : List Rw) (w : World) (hA : Sl w w.heap.size 2 A n (fun i => rwV l[i]!)) (hl : l.length = n) (hz : ∀ x ∈ l, x.1.size ≤ maxLen ∧ x.2.size ≤ maxLen) (hn : n ≤ maxLen) (hnil : A = none → n = 0)
    (t v o : ByteArray) (ht : t.size ≤ maxLen) (hv : v.size ≤ maxLen) (hT : w.cell? ⟨3, 15, none⟩ = some (.int .u8 4)) (h3 : 3 < w.heap.size) (hc : setC l t v = 0) (hot : ¬ o = t) :
    Calls Tryd.prog 4 #[.slice A n c, .string t, .string v, .string o] w fun e w' => e = .returned (.bool true) ∧ Below w.heap.size w w' := by
  have HSet := Lib.hid (Set_any A n c l w hA hl hz hn hnil t v ht hv)
  have HF : Hid (∀ W, Below w.heap.size w W → Calls Tryd.prog 9 #[] W fun e w' => e = .returned (.bool true) ∧ Below W.heap.size W w') := Lib.hid fun W hb => Fact_any W ((hb.cell (p := ⟨3, 15, none⟩) h3).trans hT) (Nat.lt_of_lt_of_le h3 hb.size)
  have HA := Lib.hid hA
  have HZ := Lib.hid hz
  clear hT h3
  obtain ⟨hf, _, _, _⟩ := setC_zero hc
  have hfa := put_fine hc
  have hlen := hf.len
  have hga : getK key1 (putK key1 l (t, v)) t = some (t, v) := by rw [getK_put hf.sorted, if_pos rfl]
  have hha := has_of_get hfa hga
  have hfb := cut_fine hfa t
  have hgb : getK key1 (cutK key1 (putK key1 l (t, v)) t) t = none := by rw [getK_cut hfa.sorted hha, if_pos rfl]
  obtain ⟨hc0, hcr⟩ := cutC_fine hfa hha
  have HR := Lib.hid (show setR l t v = putK key1 l (t, v) by unfold setR; rw [if_pos hc])
  have HGA := Lib.hid (show getL (putK key1 l (t, v)) t = (v, 0) by rw [getL_fine hfa, hga])
  have HGB := Lib.hid (show getL (cutK key1 (putK key1 l (t, v)) t) t = (ByteArray.empty, 8) by rw [getL_fine hfb, hgb])
  have HO1 : Hid (o ≠ t → getL (putK key1 l (t, v)) o = getL l o) := Lib.hid fun hne => by
    rw [getL_fine hfa, getL_fine hf, getK_put hf.sorted, if_neg (fun e => hne e.symm)]
  have HO2 : Hid (o ≠ t → getL (cutK key1 (putK key1 l (t, v)) t) o = getL l o) := Lib.hid fun hne => by
    rw [getL_fine hfb, getL_fine hf, getK_cut hfa.sorted hha, if_neg hne, getK_put hf.sorted, if_neg (fun e => hne e.symm)]
  have HC := Lib.hid hc
  have HC0 := Lib.hid hc0
  have HCR := Lib.hid hcr
  have HGL : Hid (∀ W, Below w.heap.size w W → Calls Tryd.prog 12 #[.slice A n c, .string o] W (GetP l o W)) := Lib.hid fun W hb => Get_any A n c l W ((HA.out.below hb).more hb.size) hl HZ.out hn o
  have HSA := Lib.hid (small_max hfa)
  have HSB := Lib.hid (small_max hfb)
  have hla := hfa.len
  have hlb := hfb.len
  clear hA hz hc hf hfa hga hha hfb hgb hc0 hcr
  generalize hal : putK key1 l (t, v) = a at *
  generalize hbl : cutK key1 a t = b at *
  generalize hgo : getL l o = g at *
  have HGO := Lib.hid hgo
  clear hal hbl hgo
  have tok1 : True := trivial
  have tok2 : True := trivial
  have tok3 : True := trivial
  have tok4 : True := trivial
  have hob : (o.toList == t.toList) = decide (o = t) := ba_beq
  all_goals
   first | rw [decide_eq_true hot] at hob | rw [decide_eq_false hot] at hob
   go_enter Tryd.func4, Tryd.ntmps4
   go_wp2_with (first
     | (go_at_call 10; go_loud (refine HSet.out.mono ?_; rintro e w1 ⟨A1, c1, he1, ho1, hb1⟩; rw [HR.out, HC.out] at he1; rw [HR.out] at ho1; subst he1; have HO1w := Lib.hid (Sl_rows rwV_len ho1 rfl (by decide)); have HNa := Lib.hid (own_nil ho1); have HB1 := Lib.hid hb1; clear ho1 hb1))
     | (go_at_call 12; have _t := tok1; go_loud (refine (Get_any A1 a.length c1 a _ HO1w.out rfl HSA.out (by unfold maxLen; omega) t).mono ?_; rintro e w2 ⟨he2, hb2⟩; rw [HGA.out] at he2; subst he2; have HB2 := Lib.hid hb2; clear hb2 tok1))
     | (go_at_call 13; go_loud (refine (Cut2_any A1 a.length c1 a _ ((HO1w.out.below HB2.out).more HB2.out.size) rfl HSA.out (by unfold maxLen; omega) (fun h => (HNa.out h).1) t).mono ?_; rintro e w3 ⟨A3, c3, he3, ho3, hb3⟩; rw [HCR.out, HC0.out] at he3; rw [HCR.out] at ho3; subst he3; have HO3w := Lib.hid (Sl_rows rwV_len ho3 rfl (by decide)); have HB3 := Lib.hid hb3; have HB13 := Lib.hid (bstep HB2.out HB3.out); clear ho3 hb3))
     | (go_at_call 12; have _t := tok2; go_loud (refine (Get_any A3 b.length c3 b _ HO3w.out rfl HSB.out (by unfold maxLen; omega) t).mono ?_; rintro e w4 ⟨he4, hb4⟩; rw [HGB.out] at he4; subst he4; have HB4 := Lib.hid hb4; clear hb4 tok2; have HBw4 := Lib.hid (bstep HB1.out (bstep HB13.out HB4.out))))
     | (go_at_call 9; go_loud (refine (HF.out _ HBw4.out).mono ?_; rintro e w5 ⟨rfl, hb5⟩; have HB5 := Lib.hid hb5; clear hb5; have HBw5 := Lib.hid (bstep HBw4.out HB5.out)))
     | (go_at_call 12; have _t := tok3; go_loud (refine (HGL.out _ HBw5.out).mono ?_; rintro e w6 ⟨he6, hb6⟩; rw [HGO.out] at he6; subst he6; have HB6 := Lib.hid hb6; clear hb6 tok3))
     | (go_at_call 12; have _t := tok4; go_loud (refine (Get_any A1 a.length c1 a _ ((HO1w.out.below (bstep HB13.out (bstep HB4.out (bstep HB5.out HB6.out)))).more (Nat.le_trans HB13.out.size (Nat.le_trans HB4.out.size (Nat.le_trans HB5.out.size HB6.out.size)))) rfl HSA.out (by unfold maxLen; omega) o).mono ?_; rintro e w7 ⟨he7, hb7⟩; (first | rw [HO1.out hot] at he7 | skip); subst he7; have HB7 := Lib.hid hb7; clear hb7 tok4))
     | (go_at_call 12; go_loud (refine (Get_any A3 b.length c3 b _ ((HO3w.out.below (bstep HB4.out (bstep HB5.out (bstep HB6.out HB7.out)))).more (Nat.le_trans HB4.out.size (Nat.le_trans HB5.out.size (Nat.le_trans HB6.out.size HB7.out.size)))) rfl HSB.out (by unfold maxLen; omega) o).mono ?_; rintro e w8 ⟨he8, hb8⟩; (first | rw [HO2.out hot] at he8 | skip); subst he8; have HB8 := Lib.hid hb8; clear hb8)))
   go_ret
   exact ⟨rfl, bstep HBw5.out (bstep HB6.out (bstep HB7.out HB8.out))⟩
end Go.Proofs.YtojnojjiblcmcaaDoor
