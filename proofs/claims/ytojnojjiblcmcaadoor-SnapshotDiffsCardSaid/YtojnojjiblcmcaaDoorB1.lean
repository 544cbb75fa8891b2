/- Package snapshot: Text. -/
import Derived.Test.YtojnojjiblcmcaaDoorA9
namespace Go.Proofs.YtojnojjiblcmcaaDoor
open Go.RowKit

theorem hexL_len : ∀ (m u : Nat), u < 16 ^ (m + 1) → (hexL u).length ≤ m + 1
  | 0, u, h => by rw [hexL_lt (by simpa using h)]; simp
  | m + 1, u, h => by
    by_cases h16 : u < 16
    · rw [hexL_lt h16]; simp
    · rw [hexL_ge h16, List.length_append]
      have := hexL_len m (u / 16) (by rw [Nat.pow_succ] at h; omega)
      simp only [List.length_singleton]
      omega
theorem strOfNums_size (l : List Int) : (strOfNums l).size = l.length := by simp [strOfNums, ByteArray.size]
theorem hex_size (u : Nat) (h : u < 18446744073709551616) : (strOfNums (hexL u)).size ≤ 16 := by
  rw [strOfNums_size]
  exact hexL_len 15 u (by simpa using h)
theorem digN_lt (l : List Rw) : digN l < 18446744073709551616 := by
  unfold digN
  split
  · exact fnvL_lt _
  · omega

/-- What Text answers. -/
def textB (l : List Rw) : ByteArray := strOfNums (hexL (digN l)) ++ bNl ++ linesB l
def textL (l : List Rw) : ByteArray := if checkL l = 0 then textB l else ByteArray.empty
def TextP (l : List Rw) (w : World) (e : Ending) (w' : World) : Prop := e = .returned (.tuple #[.string (textL l), .int .i64 (checkL l)]) ∧ Below w.heap.size w w'

set_option maxRecDepth 100000 in
set_option maxHeartbeats 2000000 in
theorem Text_any (A : Option Addr) (n c : Nat) (l : List Rw) (w : World) (hA : Sl w w.heap.size 2 A n (fun i => rwV l[i]!)) (hl : l.length = n) (hz : ∀ x ∈ l, x.1.size ≤ maxLen ∧ x.2.size ≤ maxLen) (hn : n ≤ maxLen)
    (hT : w.cell? ⟨3, 15, none⟩ = some (.int .u8 4)) (h3 : 3 < w.heap.size) :
    Calls Tryd.prog 14 #[.slice A n c] w (TextP l w) := by
  have HD := Lib.hid (Digest_any A n c l w hA hl hz hn)
  have HA := Lib.hid hA
  unfold maxLen at hn
  by_cases hc : checkL l = 0
  · have hf := fine_of hc
    have hlen := hf.len
    have hsz := linesB_size (fine_small hf)
    have HL : Hid (∀ W, Below w.heap.size w W → Calls Tryd.prog 31 #[.slice A n c] W fun e w' => e = .returned (.string (linesB l)) ∧ Below W.heap.size W w') := Lib.hid fun W hb => lines_any A n c l W ((HA.out.below hb).more hb.size) hl hf
    have HP := Lib.hid (show textL l = strOfNums (hexL (digN l)) ++ bNl ++ linesB l by unfold textL textB; rw [if_pos hc])
    have HC := Lib.hid hc
    have hz4 : (linesB l).size ≤ 4000 := by omega
    have hz5 := hex_size _ (digN_lt l)
    have HU : Hid (∀ W, Below w.heap.size w W → Calls Tryd.prog 30 #[.int .u64 (digN l : Nat), .int .i64 16] W fun e w' => e = .returned (.string (strOfNums (hexL (digN l)))) ∧ Below W.heap.size W w') := Lib.hid fun W hb => FormatUint_any (digN l) W (digN_lt l) ((hb.cell (p := ⟨3, 15, none⟩) h3).trans hT)
    clear hc hA hz hf hsz hT
    generalize linesB l = s at *
    generalize hdn : digN l = u at *
    have HDN := Lib.hid hdn
    clear hdn
    generalize strOfNums (hexL u) = t at *
    go_enter Tryd.func14, Tryd.ntmps14
    go_wp2_with (first
      | (go_at_call 29; go_loud (refine HD.out.mono ?_; rintro e w1 ⟨he1, hb1⟩; rw [HC.out, HDN.out] at he1; subst he1))
      | (go_at_call 30; go_loud (refine (HU.out _ hb1).mono ?_; rintro e w2 ⟨he2, hb2⟩; subst he2; have HB2 := Lib.hid (bstep hb1 hb2)))
      | (go_at_call 31; go_loud (refine (HL.out _ HB2.out).mono ?_; rintro e w3 ⟨he3, hb3⟩; subst he3; have HB3 := Lib.hid (bstep HB2.out hb3))))
    go_ret2
    exact ⟨ret2_si (by rw [HP.out]; rfl) HC.out.symm, HB3.out⟩
  · have hcb : (checkL l != 0) = true := by simpa using hc
    have HP := Lib.hid (show textL l = ByteArray.empty by unfold textL; rw [if_neg hc])
    clear hc hA hz
    go_enter Tryd.func14, Tryd.ntmps14
    go_wp2_with (go_at_call 29; go_loud (refine HD.out.mono ?_; rintro e w1 ⟨rfl, hb1⟩))
    go_ret2
    exact ⟨ret2_si (by rw [HP.out]; rfl) rfl, hb1⟩
end Go.Proofs.YtojnojjiblcmcaaDoor
