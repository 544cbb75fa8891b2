/- Package snapshot: lines, Digest, Text. -/
import Derived.Test.YtojnojjiblcmcaaDoorA6
namespace Go.Proofs.YtojnojjiblcmcaaDoor
open Go.RowKit

set_option maxHeartbeats 1000000 in
theorem FormatUint_any (u : Nat) (w : World) (h1 : u < 18446744073709551616) (hT : w.cell? ⟨3, 15, none⟩ = some (.int .u8 4)) :
    Calls Tryd.prog 30 #[.int .u64 u, .int .i64 16] w fun e w' => e = .returned (.string (strOfNums (hexL u))) ∧ Below w.heap.size w w' := by
  have HF := Lib.hid (formatBits_any u w h1 hT)
  have h45 : Calls Tryd.prog 45 #[.int .u64 u, .int .i64 16] w fun e w' => e = .returned (.string (strOfNums (hexL u))) ∧ Below w.heap.size w w' := by
    go_enter Tryd.func45, Tryd.ntmps45
    go_wp2_with (go_at_call 60; go_loud (refine HF.out.mono ?_; rintro e w1 ⟨rfl, hb1⟩))
    go_ret
    exact ⟨rfl, hb1⟩
  have H45 := Lib.hid h45
  clear h45
  go_enter Tryd.func30, Tryd.ntmps30
  go_wp2_with (go_at_call 45; go_loud (refine H45.out.mono ?_; rintro e w1 ⟨rfl, hb1⟩))
  go_ret
  exact ⟨rfl, hb1⟩

def bEq : ByteArray := { data := #[61] }
def bNl : ByteArray := { data := #[10] }
/-- A row's line; all lines. -/
def lnB (x : Rw) : ByteArray := x.1 ++ bEq ++ x.2 ++ bNl
def linesB : List Rw → ByteArray
  | [] => ByteArray.empty
  | x :: l => lnB x ++ linesB l
theorem linesB_append : ∀ (l m : List Rw), linesB (l ++ m) = linesB l ++ linesB m
  | [], m => by simp [linesB]
  | x :: l, m => by rw [List.cons_append, linesB, linesB, linesB_append l m, ByteArray.append_assoc]
theorem linesB_step (l : List Rw) {k : Nat} (hk : k < l.length) : linesB (l.take (k + 1)) = linesB (l.take k) ++ lnB l[k]! := by
  rw [List.take_succ_eq_append_getElem hk, linesB_append, getElem!_pos l k hk]
  simp [linesB]
theorem lnB_size (x : Rw) : (lnB x).size = x.1.size + x.2.size + 2 := by
  unfold lnB
  simp only [ByteArray.size_append]
  show x.1.size + 1 + x.2.size + 1 = _
  omega
theorem fine_small {l : List Rw} (h : Fine l) : ∀ x ∈ l, x.1.size ≤ 12 ∧ x.2.size ≤ 40 := fun x hx => by
  obtain ⟨h1, h2⟩ := h.key x hx
  unfold keyB at h1
  unfold valB at h2
  simp only [Bool.and_eq_true, decide_eq_true_eq] at h1 h2
  exact ⟨h1.1.2, h2.1⟩
theorem linesB_size {l : List Rw} (h : ∀ x ∈ l, x.1.size ≤ 12 ∧ x.2.size ≤ 40) : (linesB l).size ≤ l.length * 54 := by
  induction l with
  | nil => simp [linesB]
  | cons x l ih =>
    rw [linesB, ByteArray.size_append, lnB_size, List.length_cons]
    have := ih fun y hy => h y (List.mem_cons_of_mem _ hy)
    obtain ⟨a, b⟩ := h x List.mem_cons_self
    omega

set_option maxRecDepth 100000 in
set_option maxHeartbeats 2000000 in
theorem lines_any (A : Option Addr) (n c : Nat) (l : List Rw) (w : World) (hA : Sl w w.heap.size 2 A n (fun i => rwV l[i]!)) (hl : l.length = n) (hf : Fine l) :
    Calls Tryd.prog 31 #[.slice A n c] w fun e w' => e = .returned (.string (linesB l)) ∧ Below w.heap.size w w' := by
  subst hl
  have hlen := hf.len
  have HA := Lib.hid hA
  have HSM := Lib.hid (fine_small hf)
  clear hA hf
  go_enter Tryd.func31, Tryd.ntmps31
  go_wp2
  go_loopw [3, 8] (fun s x wr => ∃ j : Nat, j ≤ l.length ∧ x = .int .i64 j ∧ s = .string (linesB (l.take j)) ∧ Below w.heap.size w wr) (fun _ x _ => l.length - (intOf x).toNat)
  case atStart => exact ⟨0, by omega, rfl, rfl, Below.refl _ _⟩
  case round =>
    obtain ⟨j, hj, rfl, rfl, hbr⟩ := hrel
    have hzr := hbr.size
    have HBR := Lib.hid hbr
    by_cases hjn : j < l.length
    · obtain ⟨b, off, rfl, hb, hr⟩ := HA.out (by omega)
      have o0 : wr.cell? ⟨b, off + j * 2, none⟩ = some (.string (l[j]!).1) := (hbr.cell (p := ⟨b, _, none⟩) hb).trans (hr j hjn 0 _ rfl)
      have o1 : wr.cell? ⟨b, off + j * 2 + 1, none⟩ = some (.string (l[j]!).2) := (hbr.cell (p := ⟨b, _, none⟩) hb).trans (hr j hjn 1 _ rfl)
      have hj0 : (0 : Int) ≤ (j : Int) := by omega
      have hjl : (j : Int) < (l.length : Int) := by omega
      have hst := linesB_step l hjn
      have HST : Hid (linesB (l.take (j + 1)) = linesB (l.take j) ++ ((l[j]!).1 ++ bEq ++ (l[j]!).2 ++ bNl)) := Lib.hid hst
      have hzl := linesB_size (l := l.take j) (fun x hx => HSM.out x (List.mem_of_mem_take hx))
      rw [List.length_take, Nat.min_eq_left (by omega)] at hzl
      have hzx := HSM.out l[j]! (by rw [getElem!_pos l j hjn]; exact List.getElem_mem hjn)
      clear hr hbr hst
      generalize l[j]! = x at *
      obtain ⟨xk, xv⟩ := x
      dsimp only at *
      obtain ⟨hz1, hz2⟩ := hzx
      have hz3 : (linesB (l.take j)).size ≤ 4000 := by omega
      clear hzl
      go_wp2
      go_roundw
      case rel => exact ⟨j + 1, by omega, by go_num, by rw [HST.out]; rfl, HBR.out.alloc hzr _⟩
      case measure => simp [intOf]; omega
    · obtain rfl : l.length = j := by omega
      have HT := Lib.hid (List.take_length (l := l))
      clear hbr
      go_wp2
      go_ret
      exact ⟨by rw [HT.out]; rfl, HBR.out⟩

end Go.Proofs.YtojnojjiblcmcaaDoor
