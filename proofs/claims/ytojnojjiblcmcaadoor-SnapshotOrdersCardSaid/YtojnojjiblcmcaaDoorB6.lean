/- SnapshotGets, Set refuses -/
import Derived.Test.YtojnojjiblcmcaaDoorB3
namespace Go.Proofs.YtojnojjiblcmcaaDoor
open Go.RowKit

set_option maxRecDepth 100000 in
set_option maxHeartbeats 40000000 in
theorem Gets_no (A : Option Addr) (n c : Nat) (l : List Rw) (w : World) (hA : Sl w w.heap.size 2 A n (fun i => rwV l[i]!)) (hl : l.length = n) (hz : ∀ x ∈ l, x.1.size ≤ maxLen ∧ x.2.size ≤ maxLen) (hn : n ≤ maxLen) (hnil : A = none → n = 0)
    (t v o : ByteArray) (ht : t.size ≤ maxLen) (hv : v.size ≤ maxLen) (hT : w.cell? ⟨3, 15, none⟩ = some (.int .u8 4)) (h3 : 3 < w.heap.size) (hc : ¬ setC l t v = 0) :
    Calls Tryd.prog 4 #[.slice A n c, .string t, .string v, .string o] w fun e w' => e = .returned (.bool true) ∧ Below w.heap.size w w' := by
  have HSet := Lib.hid (Set_any A n c l w hA hl hz hn hnil t v ht hv)
  have HF : Hid (∀ W, Below w.heap.size w W → Calls Tryd.prog 9 #[] W fun e w' => e = .returned (.bool true) ∧ Below W.heap.size W w') := Lib.hid fun W hb => Fact_any W ((hb.cell (p := ⟨3, 15, none⟩) h3).trans hT) (Nat.lt_of_lt_of_le h3 hb.size)
  have HA := Lib.hid hA
  have HZ := Lib.hid hz
  clear hT h3
  have HR := Lib.hid (show setR l t v = [] by unfold setR; rw [if_neg hc])
  have hcb : (setC l t v != 0) = true := by simpa using hc
  have hcb2 : (setC l t v == 0) = false := by simpa using hc
  clear hA hz HA HZ
  generalize setC l t v = sc at *
  go_enter Tryd.func4, Tryd.ntmps4
  go_wp2_with (first
    | (go_at_call 10; go_loud (refine HSet.out.mono ?_; rintro e w1 ⟨A1, c1, he1, ho1, hb1⟩; rw [HR.out] at he1; subst he1; have HB1 := Lib.hid hb1; clear ho1 hb1))
    | (go_at_call 9; go_loud (refine (HF.out _ HB1.out).mono ?_; rintro e w2 ⟨rfl, hb2⟩; have HB2 := Lib.hid (bstep HB1.out hb2); clear hb2)))
  go_ret
  exact ⟨rfl, HB2.out⟩
end Go.Proofs.YtojnojjiblcmcaaDoor
