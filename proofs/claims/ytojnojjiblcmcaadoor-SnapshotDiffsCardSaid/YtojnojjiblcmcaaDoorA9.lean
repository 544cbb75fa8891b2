/- Package snapshot: the walk of Digest. -/
import Derived.Test.YtojnojjiblcmcaaDoorA8
namespace Go.Proofs.YtojnojjiblcmcaaDoor
open Go.RowKit

def digN (l : List Rw) : Nat := if checkL l = 0 then fnvL (linesB l).data.toList else 0
def DigestP (l : List Rw) (w : World) (e : Ending) (w' : World) : Prop :=
  e = .returned (.tuple #[.int .u64 (digN l : Nat), .int .i64 (checkL l)]) ∧ Below w.heap.size w w'
theorem ret2_un {a a' b b' : Int} (h1 : a = a') (h2 : b = b') : Ending.returned (.tuple #[.int .u64 a, .int .i64 b]) = .returned (.tuple #[.int .u64 a', .int .i64 b']) := by rw [h1, h2]

set_option maxRecDepth 100000 in
set_option maxHeartbeats 4000000 in
theorem Digest_ok (A : Option Addr) (n c : Nat) (l : List Rw) (w : World) (hA : Sl w w.heap.size 2 A n (fun i => rwV l[i]!)) (hl : l.length = n) (hz : ∀ x ∈ l, x.1.size ≤ maxLen ∧ x.2.size ≤ maxLen) (hn : n ≤ maxLen) (hc : checkL l = 0) :
    Calls Tryd.prog 29 #[.slice A n c] w (DigestP l w) := by
  have HCk := Lib.hid (Check_any A n c l w hA hl hz hn)
  have HA := Lib.hid hA
  unfold maxLen at hn
  have hf := fine_of hc
  have hlen := hf.len
  have hsz := linesB_size (fine_small hf)
  have HL : Hid (∀ W, Below w.heap.size w W → Calls Tryd.prog 31 #[.slice A n c] W fun e w' => e = .returned (.string (linesB l)) ∧ Below W.heap.size W w') := Lib.hid fun W hb => lines_any A n c l W ((HA.out.below hb).more hb.size) hl hf
  have HC := Lib.hid hc
  have HP : Hid (digN l = fnvL (linesB l).data.toList) := Lib.hid (by unfold digN; rw [if_pos hc])
  clear hc hA hz hf
  have hz4 : (linesB l).size ≤ 4000 := by omega
  generalize hs : linesB l = s at *
  have HS := Lib.hid hs
  clear hs hsz
  have hk := fun (W : World) => Lib.run_convert_string_bytes (P := Tryd.prog) W 9 40 5 s Tryd.underlying9 Tryd.underlying40 Tryd.underlying5
  go_enter Tryd.func29, Tryd.ntmps29
  go_wp2_with (first
    | (go_at_call 16; go_loud (refine HCk.out.mono ?_; rintro e w1 ⟨he1, hb1⟩; rw [HC.out] at he1; subst he1))
    | (go_at_call 31; go_loud (refine (HL.out _ hb1).mono ?_; rintro e w2 ⟨he2, hb2⟩; subst he2; have HB2 := Lib.hid (bstep hb1 hb2))))
  have HCC := Lib.hid (fun (i : Nat) (hi : i < s.size) => Lib.bytesWorld_cell w2 5 s i hi)
  go_loop [5, 17] (fun h x => ∃ j : Nat, j ≤ s.size ∧ x = .int .i64 j ∧ h = .int .u64 (fnvL (s.data.toList.take j) : Nat)) (fun _ x => s.size - (intOf x).toNat)
  case atStart => exact ⟨0, by omega, rfl, by rw [List.take_zero, fnv_start]⟩
  case round =>
    obtain ⟨j, hj, rfl, rfl⟩ := hrel
    by_cases hjn : j < s.size
    · have hcell := HCC.out j hjn
      have hst := fnv_step s.data.toList (show j < s.data.toList.length by simpa using hjn)
      have hmw := mix_walk (fnvL (s.data.toList.take j)) (s.data.toList.getD j 0) (fnvL_lt _)
      rw [← hst] at hmw
      have hlt := fnvL_lt (s.data.toList.take j)
      have hc8 := UInt8.toNat_lt (s.data.toList.getD j 0)
      have hj0 : (0 : Int) ≤ (j : Int) := by omega
      have hjl : (j : Int) < (s.size : Int) := by omega
      clear hst
      generalize hh2 : fnvL (s.data.toList.take (j + 1)) = h2 at *
      generalize hh1 : fnvL (s.data.toList.take j) = h1 at *
      have HH2 := Lib.hid hh2
      clear hh2 hh1
      generalize (s.data.toList.getD j 0).toNat = cc at *
      go_wp2
      go_round
      case rel => exact ⟨j + 1, by omega, by go_num, by rw [HH2.out]⟩
      case measure => simp [intOf]; omega
    · obtain rfl : s.size = j := by omega
      have htk : s.data.toList.take s.size = s.data.toList := List.take_of_length_le (by simp)
      have HT := Lib.hid htk
      clear htk
      go_wp2
      go_ret2
      refine ⟨?_, HB2.out.trans ((below_bytes w2 5 s).mono HB2.out.size)⟩
      exact ret2_un (by rw [HP.out, HT.out]) HC.out.symm

set_option maxRecDepth 100000 in
set_option maxHeartbeats 4000000 in
theorem Digest_no (A : Option Addr) (n c : Nat) (l : List Rw) (w : World) (hA : Sl w w.heap.size 2 A n (fun i => rwV l[i]!)) (hl : l.length = n) (hz : ∀ x ∈ l, x.1.size ≤ maxLen ∧ x.2.size ≤ maxLen) (hn : n ≤ maxLen) (hc : ¬ checkL l = 0) :
    Calls Tryd.prog 29 #[.slice A n c] w (DigestP l w) := by
  have HCk := Lib.hid (Check_any A n c l w hA hl hz hn)
  have HA := Lib.hid hA
  unfold maxLen at hn
  have hcb : (checkL l != 0) = true := by simpa using hc
  have HP : Hid (digN l = 0) := Lib.hid (by unfold digN; rw [if_neg hc])
  clear hc hA hz
  go_enter Tryd.func29, Tryd.ntmps29
  go_wp2_with (go_at_call 16; go_loud (refine HCk.out.mono ?_; rintro e w1 ⟨rfl, hb1⟩))
  go_ret2
  exact ⟨ret2_un (by rw [HP.out]; rfl) rfl, hb1⟩


theorem Digest_any (A : Option Addr) (n c : Nat) (l : List Rw) (w : World) (hA : Sl w w.heap.size 2 A n (fun i => rwV l[i]!)) (hl : l.length = n) (hz : ∀ x ∈ l, x.1.size ≤ maxLen ∧ x.2.size ≤ maxLen) (hn : n ≤ maxLen) :
    Calls Tryd.prog 29 #[.slice A n c] w (DigestP l w) := by
  by_cases hc : checkL l = 0
  · exact Digest_ok A n c l w hA hl hz hn hc
  · exact Digest_no A n c l w hA hl hz hn hc
end Go.Proofs.YtojnojjiblcmcaaDoor
