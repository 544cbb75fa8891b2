/- Package snapshot: Text. -/
import Derived.Test.YtjmdebeffpdpcaaGreatDoorSA5
import Derived.Laws.BytesArg
import Derived.Laws.Bits64b
import Derived.Laws.Bits64
import Derived.Test.YtjmdebeffpdpcaaGreatDoorSB3
namespace Go.Proofs.YtjmdebeffpdpcaaGreatDoor
open Go.RowKit

set_option maxRecDepth 100000 in
set_option maxHeartbeats 1000000 in
theorem Tz64 (w : World) (hT : w.cell? ⟨5, 15, none⟩ = some (.int .u8 4)) : Calls Tryz.prog 101 #[.int .u64 16] w fun e w' => e = .returned (.int .i64 4) ∧ w = w' := by
  have hoff : (IntKind.u64.wrap (bits BinOp.and IntKind.u64 16 (IntKind.u64.wrap (-16)) * 285870213051353865) / 288230376151711744).toNat = 15 := by kernel_rfl
  go_enter Tryz.func101, Tryz.ntmps101
  go_wp2
  go_ret
  exact ⟨rfl, rfl⟩
theorem Tz (w : World) (hT : w.cell? ⟨5, 15, none⟩ = some (.int .u8 4)) : Calls Tryz.prog 83 #[.int .u64 16] w fun e w' => e = .returned (.int .i64 4) ∧ w = w' := by
  go_enter Tryz.func83, Tryz.ntmps83
  go_wp2_with (go_at_call 101; refine (Tz64 _ hT).mono ?_; rintro e w' ⟨rfl, rfl⟩)
  go_ret
  exact ⟨rfl, rfl⟩
theorem Pow2 (w : World) : Calls Tryz.prog 82 #[.int .i64 16] w fun e w' => e = .returned (.bool true) ∧ w = w' := by
  go_enter Tryz.func82, Tryz.ntmps82
  go_wp2
  go_ret
  exact ⟨rfl, rfl⟩

/-- A hexadecimal digit; a number's digits, the highest first. -/
def hexd (d : Nat) : Int := [48, 49, 50, 51, 52, 53, 54, 55, 56, 57, 97, 98, 99, 100, 101, 102].getD d 0
def hexL (u : Nat) : List Int := if u < 16 then [hexd u] else hexL (u / 16) ++ [hexd (u % 16)]
termination_by u
theorem hexL_lt {u : Nat} (h : u < 16) : hexL u = [hexd u] := by rw [hexL, if_pos h]
theorem hexL_ge {u : Nat} (h : ¬ u < 16) : hexL u = hexL (u / 16) ++ [hexd (u % 16)] := by rw [hexL, if_neg h]
theorem and15 (v : Nat) (h : v < 18446744073709551616) : bits BinOp.and IntKind.u64 (v : Int) 15 = ((v % 16 : Nat) : Int) := by
  have := bits_and_u64_nat v 15 h (by decide)
  rw [show (v &&& 15 : Nat) = v % 16 from Nat.and_two_pow_sub_one_eq_mod v 4] at this
  exact this
theorem digAt : ∀ (d : Nat), d < 16 → ∀ (h : d < (ByteArray.mk #[48, 49, 50, 51, 52, 53, 54, 55, 56, 57, 97, 98, 99, 100, 101, 102, 103, 104, 105, 106, 107, 108, 109, 110, 111, 112, 113, 114, 115, 116, 117, 118, 119, 120, 121, 122]).size),
    (((ByteArray.mk #[48, 49, 50, 51, 52, 53, 54, 55, 56, 57, 97, 98, 99, 100, 101, 102, 103, 104, 105, 106, 107, 108, 109, 110, 111, 112, 113, 114, 115, 116, 117, 118, 119, 120, 121, 122])[d]'h).toNat : Int) = hexd d := by decide

/-- The cells behind place p hold the digits that are done. -/
def Digs (C : Array Value) (p : Nat) (tl : List Int) : Prop := C.size = 65 ∧ p + tl.length = 65 ∧ ∀ j, j < tl.length → C[p + j]? = some (.int .u8 (tl.getD j 0))
theorem Digs.put {C : Array Value} {p : Nat} {tl : List Int} (h : Digs C (p + 1) tl) (x : Int) : Digs (C.setIfInBounds p (.int .u8 x)) p (x :: tl) := by
  obtain ⟨h1, h2, h3⟩ := h
  refine ⟨by simp [h1], by simp; omega, fun j hj => ?_⟩
  cases j with
  | zero => rw [Nat.add_zero, Array.getElem?_setIfInBounds_self_of_lt (by omega)]; rfl
  | succ j =>
    rw [Array.getElem?_setIfInBounds_ne (by omega), show p + (j + 1) = p + 1 + j by omega, h3 j (by simpa using hj)]
    rfl

theorem sliceA (b p : Nat) (hp : p < 65) (W : World) : (Instr.sliceAt 115 (.pointer (some ⟨b, 0, none⟩)) (some (.int .i64 (p : Int))) none none).run Tryz.prog W = .ok (.slice (some ⟨b, p, none⟩) (65 - p) (65 - p)) W := by
  have hal : Tryz.prog.arrayLen 115 = 65 := by kernel_rfl
  have hel : Tryz.prog.elem 115 = 5 := by kernel_rfl
  rw [run_sliceAt_array_l (P := Tryz.prog) W 115 ⟨b, 0, none⟩ (by kernel_rfl) .i64 (p : Int) (by omega) (by rw [hal]; omega), hel, Tryz.sizeOf5 W, hal]
  simp only [Result.andThen, slicedAt, Int.toNat_natCast]
  rw [if_neg (by omega), Addr.add_mid]
  simp
theorem zero104 : Tryz.zeroCells115.size = 65 := by kernel_rfl
def FbP (u : Nat) (w : World) (e : Ending) (w' : World) : Prop := e = .returned (.tuple #[.slice none 0 0, .string (strOfNums (hexL u))]) ∧ Below w.heap.size w w'

set_option maxRecDepth 100000 in
set_option maxHeartbeats 4000000 in
theorem formatBits_any (u : Nat) (w : World) (h1 : u < 18446744073709551616) (hT : w.cell? ⟨5, 15, none⟩ = some (.int .u8 4)) :
    Calls Tryz.prog 58 #[.slice none 0 0, .int .u64 u, .int .i64 16, .bool false, .bool false] w (FbP u w) := by
  have hu : u < 16 ^ 16 := by simpa using h1
  have HU := Lib.hid hu
  have hu0 : (0 : Int) ≤ (u : Int) := by omega
  clear hu
  go_enter Tryz.func58, Tryz.ntmps58
  go_wp2_with (first
    | (go_at_call 82; refine (Pow2 _).mono ?_; rintro e w' ⟨rfl, rfl⟩)
    | (go_at_call 83; refine (Tz _ (Lib.cell?_alloc_some _ hT)).mono ?_; rintro e w' ⟨rfl, rfl⟩))
  go_loopw [1, 13] (fun x i wr => ∃ (v p m : Nat) (tl : List Int) (C : Array Value), x = .int .u64 v ∧ i = .int .i64 p ∧ Hid (hexL u = hexL v ++ tl) ∧ Hid (v < 16 ^ m) ∧ m + tl.length = 16 ∧ wr.heap[w.heap.size]? = some (.cells C 115 (0, 0)) ∧ Hid (Digs C p tl) ∧ Below w.heap.size w wr) (fun x _ _ => (intOf x).toNat)
  case atStart => exact ⟨u, 65, 16, [], Tryz.zeroCells115, rfl, rfl, Lib.hid (by simp), Lib.hid HU.out, rfl, heap_alloc_new w _, Lib.hid ⟨zero104, rfl, fun j hj => by simp at hj⟩, (Below.refl _ _).alloc (Nat.le_refl _) _⟩
  case round =>
    obtain ⟨v, p, m, tl, C, rfl, rfl, HE, HM, hmt, hblk, HD, hbl⟩ := hrel
    have hp65 := HD.out.2.1
    have hCs := HD.out.1
    have hp49 : 49 ≤ p := by omega
    have hv64 : v < 18446744073709551616 := Nat.lt_of_lt_of_le HM.out (by
      have : 16 ^ m ≤ 16 ^ 16 := Nat.pow_le_pow_right (by decide) (by omega)
      simpa using this)
    obtain ⟨p', rfl⟩ : ∃ p', p = p' + 1 := ⟨p - 1, by omega⟩
    have hcell : ∃ z, wr.cell? ⟨w.heap.size, p', none⟩ = some z := by
      rw [cell_of_row wr w.heap.size p' C 115 (0, 0) hblk, Array.getElem?_eq_getElem (by omega)]
      exact ⟨_, rfl⟩
    obtain ⟨z, hz⟩ := hcell
    have hfz := frozen_of_row wr w.heap.size p' C 115 hblk
    have HBK := Lib.hid hblk
    have HBL := Lib.hid hbl
    have hpp : (0 : Int) ≤ (p' : Int) := by omega
    have hp64 : (p' : Int) < 65 := by omega
    by_cases h16 : v < 16
    · have hdig := digAt v h16
      have HE2 := Lib.hid (show hexL u = hexd v :: tl by rw [HE.out, hexL_lt h16]; rfl)
      have HD2 := Lib.hid (HD.out.put (hexd v))
      have hbk2 := heap_setCell_same wr w.heap.size p' C 115 (.int .u8 (hexd v)) hblk
      have HBK2 := Lib.hid hbk2
      have h16' : (v : Int) < 16 := by omega
      have hlen : (hexd v :: tl).length = 65 - p' := by simp; omega
      have hcv : (convert 69 9 (.slice (some ⟨w.heap.size, p', none⟩) (65 - p') (65 - p'))).run Tryz.prog (wr.setCell ⟨w.heap.size, p', none⟩ (.int .u8 (hexd v))) = .ok (.string (strOfNums (hexd v :: tl))) (wr.setCell ⟨w.heap.size, p', none⟩ (.int .u8 (hexd v))) :=
        run_convert_bytes_arg (P := Tryz.prog) _ 69 5 Tryz.underlying69 Tryz.underlying5 w.heap.size p' (65 - p') (65 - p') _ hlen (fun i hi => by
          rw [cell_of_row _ w.heap.size (p' + i) _ 115 (0, 0) HBK2.out]
          exact HD2.out.2.2 i (by omega)) 9 Tryz.underlying9
      clear hblk hbl hbk2 hlen
      generalize hq : hexd v = q at *
      have hsa := sliceA w.heap.size p' (by omega)
      clear hq
      go_wp2
      go_ret2
      exact ⟨by rw [HE2.out]; rfl, HBL.out.setCell (p := ⟨w.heap.size, p', none⟩) (Nat.le_refl _) _⟩
    · have hand := and15 v hv64
      have hd16 : v % 16 < 16 := Nat.mod_lt _ (by decide)
      have hlt := Nat.div_lt_self (show 0 < v by omega) (show 1 < 16 by decide)
      have hm2 : 1 ≤ m := by
        rcases Nat.eq_zero_or_pos m with h | h
        · subst h; have := HM.out; simp at this; omega
        · exact h
      have HE2 := Lib.hid (show hexL u = hexL (v / 16) ++ (hexd (v % 16) :: tl) by rw [HE.out, hexL_ge h16]; simp)
      have HM2 := Lib.hid (show v / 16 < 16 ^ (m - 1) by
        have h := HM.out
        rw [show m = m - 1 + 1 by omega, Nat.pow_succ] at h
        omega)
      have HD2 := Lib.hid (HD.out.put (hexd (v % 16)))
      have hbk2 := heap_setCell_same wr w.heap.size p' C 115 (.int .u8 (hexd (v % 16))) hblk
      have HBK2 := Lib.hid hbk2
      have hdig := digAt (v % 16) hd16
      have hdv : (v : Int) / 16 = ((v / 16 : Nat) : Int) := by omega
      have h16' : ¬ (v : Int) < 16 := by omega
      clear hblk hbl hbk2
      generalize hq : hexd (v % 16) = q at *
      generalize v % 16 = d at *
      clear hq hdv
      go_wp2
      go_roundw
      case rel => exact ⟨v / 16, p', m - 1, q :: tl, _, by go_num, by go_num, HE2, HM2, by simp; omega, HBK2.out, HD2, HBL.out.setCell (p := ⟨w.heap.size, p', none⟩) (Nat.le_refl _) _⟩
      case measure => simp [intOf]; omega
end Go.Proofs.YtjmdebeffpdpcaaGreatDoor

namespace Go.Proofs.YtjmdebeffpdpcaaGreatDoor
open Go.RowKit

set_option maxHeartbeats 1000000 in
theorem FormatUint_any (u : Nat) (w : World) (h1 : u < 18446744073709551616) (hT : w.cell? ⟨5, 15, none⟩ = some (.int .u8 4)) :
    Calls Tryz.prog 22 #[.int .u64 u, .int .i64 16] w fun e w' => e = .returned (.string (strOfNums (hexL u))) ∧ Below w.heap.size w w' := by
  have HF := Lib.hid (formatBits_any u w h1 hT)
  have h45 : Calls Tryz.prog 37 #[.int .u64 u, .int .i64 16] w fun e w' => e = .returned (.string (strOfNums (hexL u))) ∧ Below w.heap.size w w' := by
    go_enter Tryz.func37, Tryz.ntmps37
    go_wp2_with (go_at_call 58; go_loud (refine HF.out.mono ?_; rintro e w1 ⟨rfl, hb1⟩))
    go_ret
    exact ⟨rfl, hb1⟩
  have H45 := Lib.hid h45
  clear h45
  go_enter Tryz.func22, Tryz.ntmps22
  go_wp2_with (go_at_call 37; go_loud (refine H45.out.mono ?_; rintro e w1 ⟨rfl, hb1⟩))
  go_ret
  exact ⟨rfl, hb1⟩

def bEq : ByteArray := { data := #[61] }
def bNl : ByteArray := { data := #[10] }
/-- A row's line; all lines. -/
def lnB (x : Rw) : ByteArray := x.1 ++ bEq ++ x.2 ++ bNl
def linesB : List Rw → ByteArray
  | [] => ByteArray.empty
  | x :: l => lnB x ++ linesB l
theorem linesB_append : ∀ (l m : List Rw), linesB (l ++ m) = linesB l ++ linesB m
  | [], m => by simp [linesB]
  | x :: l, m => by rw [List.cons_append, linesB, linesB, linesB_append l m, ByteArray.append_assoc]
theorem linesB_step (l : List Rw) {k : Nat} (hk : k < l.length) : linesB (l.take (k + 1)) = linesB (l.take k) ++ lnB l[k]! := by
  rw [List.take_succ_eq_append_getElem hk, linesB_append, getElem!_pos l k hk]
  simp [linesB]
theorem lnB_size (x : Rw) : (lnB x).size = x.1.size + x.2.size + 2 := by
  unfold lnB
  simp only [ByteArray.size_append]
  show x.1.size + 1 + x.2.size + 1 = _
  omega
theorem linesB_size {l : List Rw} (h : ∀ x ∈ l, x.1.size ≤ 12 ∧ x.2.size ≤ 40) : (linesB l).size ≤ l.length * 54 := by
  induction l with
  | nil => simp [linesB]
  | cons x l ih =>
    rw [linesB, ByteArray.size_append, lnB_size, List.length_cons]
    have := ih fun y hy => h y (List.mem_cons_of_mem _ hy)
    obtain ⟨a, b⟩ := h x List.mem_cons_self
    omega

set_option maxRecDepth 100000 in
set_option maxHeartbeats 2000000 in
theorem lines_any (A : Option Addr) (n c : Nat) (l : List Rw) (w : World) (hA : Sl w w.heap.size 2 A n (fun i => rwV l[i]!)) (hl : l.length = n) (hf : Fine l) :
    Calls Tryz.prog 23 #[.slice A n c] w fun e w' => e = .returned (.string (linesB l)) ∧ Below w.heap.size w w' := by
  subst hl
  have hlen := hf.len
  have HA := Lib.hid hA
  have HSM := Lib.hid (fine_small hf)
  clear hA hf
  go_enter Tryz.func23, Tryz.ntmps23
  go_wp2
  go_loopw [3, 8] (fun s x wr => ∃ j : Nat, j ≤ l.length ∧ x = .int .i64 j ∧ s = .string (linesB (l.take j)) ∧ Below w.heap.size w wr) (fun _ x _ => l.length - (intOf x).toNat)
  case atStart => exact ⟨0, by omega, rfl, rfl, Below.refl _ _⟩
  case round =>
    obtain ⟨j, hj, rfl, rfl, hbr⟩ := hrel
    have hzr := hbr.size
    have HBR := Lib.hid hbr
    by_cases hjn : j < l.length
    · obtain ⟨b, off, rfl, hb, hr⟩ := HA.out (by omega)
      have o0 : wr.cell? ⟨b, off + j * 2, none⟩ = some (.string (l[j]!).1) := (hbr.cell (p := ⟨b, _, none⟩) hb).trans (hr j hjn 0 _ rfl)
      have o1 : wr.cell? ⟨b, off + j * 2 + 1, none⟩ = some (.string (l[j]!).2) := (hbr.cell (p := ⟨b, _, none⟩) hb).trans (hr j hjn 1 _ rfl)
      have hj0 : (0 : Int) ≤ (j : Int) := by omega
      have hjl : (j : Int) < (l.length : Int) := by omega
      have hst := linesB_step l hjn
      have HST : Hid (linesB (l.take (j + 1)) = linesB (l.take j) ++ ((l[j]!).1 ++ bEq ++ (l[j]!).2 ++ bNl)) := Lib.hid hst
      have hzl := linesB_size (l := l.take j) (fun x hx => HSM.out x (List.mem_of_mem_take hx))
      rw [List.length_take, Nat.min_eq_left (by omega)] at hzl
      have hzx := HSM.out l[j]! (by rw [getElem!_pos l j hjn]; exact List.getElem_mem hjn)
      clear hr hbr hst
      generalize l[j]! = x at *
      obtain ⟨xk, xv⟩ := x
      dsimp only at *
      obtain ⟨hz1, hz2⟩ := hzx
      have hz3 : (linesB (l.take j)).size ≤ 4000 := by omega
      clear hzl
      go_wp2
      go_roundw
      case rel => exact ⟨j + 1, by omega, by go_num, by rw [HST.out]; rfl, HBR.out.alloc hzr _⟩
      case measure => simp [intOf]; omega
    · obtain rfl : l.length = j := by omega
      have HT := Lib.hid (List.take_length (l := l))
      clear hbr
      go_wp2
      go_ret
      exact ⟨by rw [HT.out]; rfl, HBR.out⟩

end Go.Proofs.YtjmdebeffpdpcaaGreatDoor

namespace Go.Proofs.YtjmdebeffpdpcaaGreatDoor
open Go.RowKit

/-- The number of a text: each byte is mixed in. -/
def mixH (n : Nat) (c : UInt8) : Nat := ((n ^^^ c.toNat) * 1099511628211) % 18446744073709551616
def fnv0 : Nat := 14695981039346656037
def fnvL (l : List UInt8) : Nat := l.foldl mixH fnv0
theorem mixH_lt (n : Nat) (c : UInt8) : mixH n c < 18446744073709551616 := Nat.mod_lt _ (by omega)
theorem fnvL_lt (l : List UInt8) : fnvL l < 18446744073709551616 := by
  unfold fnvL
  rcases List.eq_nil_or_concat l with h | ⟨m, x, h⟩
  · subst h
    rw [List.foldl_nil]
    unfold fnv0
    omega
  · subst h
    rw [List.concat_eq_append, List.foldl_append, List.foldl_cons, List.foldl_nil]
    exact mixH_lt _ _
theorem mix_walk (n : Nat) (c : UInt8) (hn : n < 18446744073709551616) : IntKind.u64.wrap (bits BinOp.xor IntKind.u64 (n : Int) (c.toNat : Int) * 1099511628211) = ((mixH n c : Nat) : Int) := by
  have hc := UInt8.toNat_lt c
  rw [bits_xor_u64_nat n c.toNat hn (by omega), IntKind.wrap_u64]
  unfold mixH
  omega

theorem fnv_step (l : List UInt8) {j : Nat} (hj : j < l.length) : fnvL (l.take (j + 1)) = mixH (fnvL (l.take j)) (l.getD j 0) := by
  unfold fnvL
  rw [List.take_succ_eq_append_getElem hj, List.foldl_append, List.foldl_cons, List.foldl_nil, List.getD_eq_getElem?_getD, List.getElem?_eq_getElem hj, Option.getD_some]
theorem fnv_start : ((fnvL [] : Nat) : Int) = 14695981039346656037 := by
  unfold fnvL
  rw [List.foldl_nil]
  unfold fnv0
  simp
end Go.Proofs.YtjmdebeffpdpcaaGreatDoor

namespace Go.Proofs.YtjmdebeffpdpcaaGreatDoor
open Go.RowKit

def digN (l : List Rw) : Nat := if checkL l = 0 then fnvL (linesB l).data.toList else 0
def DigestP (l : List Rw) (w : World) (e : Ending) (w' : World) : Prop :=
  e = .returned (.tuple #[.int .u64 (digN l : Nat), .int .i64 (checkL l)]) ∧ Below w.heap.size w w'
theorem ret2_un {a a' b b' : Int} (h1 : a = a') (h2 : b = b') : Ending.returned (.tuple #[.int .u64 a, .int .i64 b]) = .returned (.tuple #[.int .u64 a', .int .i64 b']) := by rw [h1, h2]

set_option maxRecDepth 100000 in
set_option maxHeartbeats 4000000 in
theorem Digest_ok (A : Option Addr) (n c : Nat) (l : List Rw) (w : World) (hA : Sl w w.heap.size 2 A n (fun i => rwV l[i]!)) (hl : l.length = n) (hz : ∀ x ∈ l, x.1.size ≤ maxLen ∧ x.2.size ≤ maxLen) (hn : n ≤ maxLen) (hc : checkL l = 0) :
    Calls Tryz.prog 14 #[.slice A n c] w (DigestP l w) := by
  have HCk := Lib.hid (Check_any A n c l w hA hl hz hn)
  have HA := Lib.hid hA
  unfold maxLen at hn
  have hf := fine_of hc
  have hlen := hf.len
  have hsz := linesB_size (fine_small hf)
  have HL : Hid (∀ W, Below w.heap.size w W → Calls Tryz.prog 23 #[.slice A n c] W fun e w' => e = .returned (.string (linesB l)) ∧ Below W.heap.size W w') := Lib.hid fun W hb => lines_any A n c l W ((HA.out.below hb).more hb.size) hl hf
  have HC := Lib.hid hc
  have HP : Hid (digN l = fnvL (linesB l).data.toList) := Lib.hid (by unfold digN; rw [if_pos hc])
  clear hc hA hz hf
  have hz4 : (linesB l).size ≤ 4000 := by omega
  generalize hs : linesB l = s at *
  have HS := Lib.hid hs
  clear hs hsz
  have hk := fun (W : World) => Lib.run_convert_string_bytes (P := Tryz.prog) W 9 69 5 s Tryz.underlying9 Tryz.underlying69 Tryz.underlying5
  go_enter Tryz.func14, Tryz.ntmps14
  go_wp2_with (first
    | (go_at_call 28; go_loud (refine HCk.out.mono ?_; rintro e w1 ⟨he1, hb1⟩; rw [HC.out] at he1; subst he1))
    | (go_at_call 23; go_loud (refine (HL.out _ hb1).mono ?_; rintro e w2 ⟨he2, hb2⟩; subst he2; have HB2 := Lib.hid (bstep hb1 hb2))))
  have HCC := Lib.hid (fun (i : Nat) (hi : i < s.size) => Lib.bytesWorld_cell w2 5 s i hi)
  go_loop [5, 17] (fun h x => ∃ j : Nat, j ≤ s.size ∧ x = .int .i64 j ∧ h = .int .u64 (fnvL (s.data.toList.take j) : Nat)) (fun _ x => s.size - (intOf x).toNat)
  case atStart => exact ⟨0, by omega, rfl, by rw [List.take_zero, fnv_start]⟩
  case round =>
    obtain ⟨j, hj, rfl, rfl⟩ := hrel
    by_cases hjn : j < s.size
    · have hcell := HCC.out j hjn
      have hst := fnv_step s.data.toList (show j < s.data.toList.length by simpa using hjn)
      have hmw := mix_walk (fnvL (s.data.toList.take j)) (s.data.toList.getD j 0) (fnvL_lt _)
      rw [← hst] at hmw
      have hlt := fnvL_lt (s.data.toList.take j)
      have hc8 := UInt8.toNat_lt (s.data.toList.getD j 0)
      have hj0 : (0 : Int) ≤ (j : Int) := by omega
      have hjl : (j : Int) < (s.size : Int) := by omega
      clear hst
      generalize hh2 : fnvL (s.data.toList.take (j + 1)) = h2 at *
      generalize hh1 : fnvL (s.data.toList.take j) = h1 at *
      have HH2 := Lib.hid hh2
      clear hh2 hh1
      generalize (s.data.toList.getD j 0).toNat = cc at *
      go_wp2
      go_round
      case rel => exact ⟨j + 1, by omega, by go_num, by rw [HH2.out]⟩
      case measure => simp [intOf]; omega
    · obtain rfl : s.size = j := by omega
      have htk : s.data.toList.take s.size = s.data.toList := List.take_of_length_le (by simp)
      have HT := Lib.hid htk
      clear htk
      go_wp2
      go_ret2
      refine ⟨?_, HB2.out.trans ((below_bytes w2 5 s).mono HB2.out.size)⟩
      exact ret2_un (by rw [HP.out, HT.out]) HC.out.symm

set_option maxRecDepth 100000 in
set_option maxHeartbeats 4000000 in
theorem Digest_no (A : Option Addr) (n c : Nat) (l : List Rw) (w : World) (hA : Sl w w.heap.size 2 A n (fun i => rwV l[i]!)) (hl : l.length = n) (hz : ∀ x ∈ l, x.1.size ≤ maxLen ∧ x.2.size ≤ maxLen) (hn : n ≤ maxLen) (hc : ¬ checkL l = 0) :
    Calls Tryz.prog 14 #[.slice A n c] w (DigestP l w) := by
  have HCk := Lib.hid (Check_any A n c l w hA hl hz hn)
  have HA := Lib.hid hA
  unfold maxLen at hn
  have hcb : (checkL l != 0) = true := by simpa using hc
  have HP : Hid (digN l = 0) := Lib.hid (by unfold digN; rw [if_neg hc])
  clear hc hA hz
  go_enter Tryz.func14, Tryz.ntmps14
  go_wp2_with (go_at_call 28; go_loud (refine HCk.out.mono ?_; rintro e w1 ⟨rfl, hb1⟩))
  go_ret2
  exact ⟨ret2_un (by rw [HP.out]; rfl) rfl, hb1⟩


theorem Digest_any (A : Option Addr) (n c : Nat) (l : List Rw) (w : World) (hA : Sl w w.heap.size 2 A n (fun i => rwV l[i]!)) (hl : l.length = n) (hz : ∀ x ∈ l, x.1.size ≤ maxLen ∧ x.2.size ≤ maxLen) (hn : n ≤ maxLen) :
    Calls Tryz.prog 14 #[.slice A n c] w (DigestP l w) := by
  by_cases hc : checkL l = 0
  · exact Digest_ok A n c l w hA hl hz hn hc
  · exact Digest_no A n c l w hA hl hz hn hc
end Go.Proofs.YtjmdebeffpdpcaaGreatDoor

namespace Go.Proofs.YtjmdebeffpdpcaaGreatDoor
open Go.RowKit

theorem hexL_len : ∀ (m u : Nat), u < 16 ^ (m + 1) → (hexL u).length ≤ m + 1
  | 0, u, h => by rw [hexL_lt (by simpa using h)]; simp
  | m + 1, u, h => by
    by_cases h16 : u < 16
    · rw [hexL_lt h16]; simp
    · rw [hexL_ge h16, List.length_append]
      have := hexL_len m (u / 16) (by rw [Nat.pow_succ] at h; omega)
      simp only [List.length_singleton]
      omega
theorem strOfNums_size (l : List Int) : (strOfNums l).size = l.length := by simp [strOfNums, ByteArray.size]
theorem hex_size (u : Nat) (h : u < 18446744073709551616) : (strOfNums (hexL u)).size ≤ 16 := by
  rw [strOfNums_size]
  exact hexL_len 15 u (by simpa using h)
theorem digN_lt (l : List Rw) : digN l < 18446744073709551616 := by
  unfold digN
  split
  · exact fnvL_lt _
  · omega

/-- What Text answers. -/
def textB (l : List Rw) : ByteArray := strOfNums (hexL (digN l)) ++ bNl ++ linesB l
def textL (l : List Rw) : ByteArray := if checkL l = 0 then textB l else ByteArray.empty
def TextP (l : List Rw) (w : World) (e : Ending) (w' : World) : Prop := e = .returned (.tuple #[.string (textL l), .int .i64 (checkL l)]) ∧ Below w.heap.size w w'

set_option maxRecDepth 100000 in
set_option maxHeartbeats 2000000 in
theorem Text_any (A : Option Addr) (n c : Nat) (l : List Rw) (w : World) (hA : Sl w w.heap.size 2 A n (fun i => rwV l[i]!)) (hl : l.length = n) (hz : ∀ x ∈ l, x.1.size ≤ maxLen ∧ x.2.size ≤ maxLen) (hn : n ≤ maxLen)
    (hT : w.cell? ⟨5, 15, none⟩ = some (.int .u8 4)) (h3 : 5 < w.heap.size) :
    Calls Tryz.prog 11 #[.slice A n c] w (TextP l w) := by
  have HD := Lib.hid (Digest_any A n c l w hA hl hz hn)
  have HA := Lib.hid hA
  unfold maxLen at hn
  by_cases hc : checkL l = 0
  · have hf := fine_of hc
    have hlen := hf.len
    have hsz := linesB_size (fine_small hf)
    have HL : Hid (∀ W, Below w.heap.size w W → Calls Tryz.prog 23 #[.slice A n c] W fun e w' => e = .returned (.string (linesB l)) ∧ Below W.heap.size W w') := Lib.hid fun W hb => lines_any A n c l W ((HA.out.below hb).more hb.size) hl hf
    have HP := Lib.hid (show textL l = strOfNums (hexL (digN l)) ++ bNl ++ linesB l by unfold textL textB; rw [if_pos hc])
    have HC := Lib.hid hc
    have hz4 : (linesB l).size ≤ 4000 := by omega
    have hz5 := hex_size _ (digN_lt l)
    have HU : Hid (∀ W, Below w.heap.size w W → Calls Tryz.prog 22 #[.int .u64 (digN l : Nat), .int .i64 16] W fun e w' => e = .returned (.string (strOfNums (hexL (digN l)))) ∧ Below W.heap.size W w') := Lib.hid fun W hb => FormatUint_any (digN l) W (digN_lt l) ((hb.cell (p := ⟨5, 15, none⟩) h3).trans hT)
    clear hc hA hz hf hsz hT
    generalize linesB l = s at *
    generalize hdn : digN l = u at *
    have HDN := Lib.hid hdn
    clear hdn
    generalize strOfNums (hexL u) = t at *
    go_enter Tryz.func11, Tryz.ntmps11
    go_wp2_with (first
      | (go_at_call 14; go_loud (refine HD.out.mono ?_; rintro e w1 ⟨he1, hb1⟩; rw [HC.out, HDN.out] at he1; subst he1))
      | (go_at_call 22; go_loud (refine (HU.out _ hb1).mono ?_; rintro e w2 ⟨he2, hb2⟩; subst he2; have HB2 := Lib.hid (bstep hb1 hb2)))
      | (go_at_call 23; go_loud (refine (HL.out _ HB2.out).mono ?_; rintro e w3 ⟨he3, hb3⟩; subst he3; have HB3 := Lib.hid (bstep HB2.out hb3))))
    go_ret2
    exact ⟨ret2_si (by rw [HP.out]; rfl) HC.out.symm, HB3.out⟩
  · have hcb : (checkL l != 0) = true := by simpa using hc
    have HP := Lib.hid (show textL l = ByteArray.empty by unfold textL; rw [if_neg hc])
    clear hc hA hz
    go_enter Tryz.func11, Tryz.ntmps11
    go_wp2_with (go_at_call 14; go_loud (refine HD.out.mono ?_; rintro e w1 ⟨rfl, hb1⟩))
    go_ret2
    exact ⟨ret2_si (by rw [HP.out]; rfl) rfl, hb1⟩
end Go.Proofs.YtjmdebeffpdpcaaGreatDoor
