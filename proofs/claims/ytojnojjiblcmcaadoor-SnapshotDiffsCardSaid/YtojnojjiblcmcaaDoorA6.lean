/- strconv.FormatUint at base 16. -/
import Derived.Test.YtojnojjiblcmcaaDoorA5
import Derived.Laws.BytesArg
import Derived.Laws.Bits64b
import Derived.Laws.Bits64
namespace Go.Proofs.YtojnojjiblcmcaaDoor
open Go.RowKit

set_option maxRecDepth 100000 in
set_option maxHeartbeats 1000000 in
theorem Tz64 (w : World) (hT : w.cell? ⟨3, 15, none⟩ = some (.int .u8 4)) : Calls Tryd.prog 96 #[.int .u64 16] w fun e w' => e = .returned (.int .i64 4) ∧ w = w' := by
  have hoff : (IntKind.u64.wrap (bits BinOp.and IntKind.u64 16 (IntKind.u64.wrap (-16)) * 285870213051353865) / 288230376151711744).toNat = 15 := by kernel_rfl
  go_enter Tryd.func96, Tryd.ntmps96
  go_wp2
  go_ret
  exact ⟨rfl, rfl⟩
theorem Tz (w : World) (hT : w.cell? ⟨3, 15, none⟩ = some (.int .u8 4)) : Calls Tryd.prog 81 #[.int .u64 16] w fun e w' => e = .returned (.int .i64 4) ∧ w = w' := by
  go_enter Tryd.func81, Tryd.ntmps81
  go_wp2_with (go_at_call 96; refine (Tz64 _ hT).mono ?_; rintro e w' ⟨rfl, rfl⟩)
  go_ret
  exact ⟨rfl, rfl⟩
theorem Pow2 (w : World) : Calls Tryd.prog 80 #[.int .i64 16] w fun e w' => e = .returned (.bool true) ∧ w = w' := by
  go_enter Tryd.func80, Tryd.ntmps80
  go_wp2
  go_ret
  exact ⟨rfl, rfl⟩

/-- A hexadecimal digit; a number's digits, the highest first. -/
def hexd (d : Nat) : Int := [48, 49, 50, 51, 52, 53, 54, 55, 56, 57, 97, 98, 99, 100, 101, 102].getD d 0
def hexL (u : Nat) : List Int := if u < 16 then [hexd u] else hexL (u / 16) ++ [hexd (u % 16)]
termination_by u
theorem hexL_lt {u : Nat} (h : u < 16) : hexL u = [hexd u] := by rw [hexL, if_pos h]
theorem hexL_ge {u : Nat} (h : ¬ u < 16) : hexL u = hexL (u / 16) ++ [hexd (u % 16)] := by rw [hexL, if_neg h]
theorem and15 (v : Nat) (h : v < 18446744073709551616) : bits BinOp.and IntKind.u64 (v : Int) 15 = ((v % 16 : Nat) : Int) := by
  have := bits_and_u64_nat v 15 h (by decide)
  rw [show (v &&& 15 : Nat) = v % 16 from Nat.and_two_pow_sub_one_eq_mod v 4] at this
  exact this
theorem digAt : ∀ (d : Nat), d < 16 → ∀ (h : d < (ByteArray.mk #[48, 49, 50, 51, 52, 53, 54, 55, 56, 57, 97, 98, 99, 100, 101, 102, 103, 104, 105, 106, 107, 108, 109, 110, 111, 112, 113, 114, 115, 116, 117, 118, 119, 120, 121, 122]).size),
    (((ByteArray.mk #[48, 49, 50, 51, 52, 53, 54, 55, 56, 57, 97, 98, 99, 100, 101, 102, 103, 104, 105, 106, 107, 108, 109, 110, 111, 112, 113, 114, 115, 116, 117, 118, 119, 120, 121, 122])[d]'h).toNat : Int) = hexd d := by decide

/-- The cells behind place p hold the digits that are done. -/
def Digs (C : Array Value) (p : Nat) (tl : List Int) : Prop := C.size = 65 ∧ p + tl.length = 65 ∧ ∀ j, j < tl.length → C[p + j]? = some (.int .u8 (tl.getD j 0))
theorem Digs.put {C : Array Value} {p : Nat} {tl : List Int} (h : Digs C (p + 1) tl) (x : Int) : Digs (C.setIfInBounds p (.int .u8 x)) p (x :: tl) := by
  obtain ⟨h1, h2, h3⟩ := h
  refine ⟨by simp [h1], by simp; omega, fun j hj => ?_⟩
  cases j with
  | zero => rw [Nat.add_zero, Array.getElem?_setIfInBounds_self_of_lt (by omega)]; rfl
  | succ j =>
    rw [Array.getElem?_setIfInBounds_ne (by omega), show p + (j + 1) = p + 1 + j by omega, h3 j (by simpa using hj)]
    rfl

theorem sliceA (b p : Nat) (hp : p < 65) (W : World) : (Instr.sliceAt 104 (.pointer (some ⟨b, 0, none⟩)) (some (.int .i64 (p : Int))) none none).run Tryd.prog W = .ok (.slice (some ⟨b, p, none⟩) (65 - p) (65 - p)) W := by
  have hal : Tryd.prog.arrayLen 104 = 65 := by kernel_rfl
  have hel : Tryd.prog.elem 104 = 5 := by kernel_rfl
  rw [run_sliceAt_array_l (P := Tryd.prog) W 104 ⟨b, 0, none⟩ (by kernel_rfl) .i64 (p : Int) (by omega) (by rw [hal]; omega), hel, Tryd.sizeOf5 W, hal]
  simp only [Result.andThen, slicedAt, Int.toNat_natCast]
  rw [if_neg (by omega), Addr.add_mid]
  simp
theorem zero104 : Tryd.zeroCells104.size = 65 := by kernel_rfl
def FbP (u : Nat) (w : World) (e : Ending) (w' : World) : Prop := e = .returned (.tuple #[.slice none 0 0, .string (strOfNums (hexL u))]) ∧ Below w.heap.size w w'

set_option maxRecDepth 100000 in
set_option maxHeartbeats 4000000 in
theorem formatBits_any (u : Nat) (w : World) (h1 : u < 18446744073709551616) (hT : w.cell? ⟨3, 15, none⟩ = some (.int .u8 4)) :
    Calls Tryd.prog 60 #[.slice none 0 0, .int .u64 u, .int .i64 16, .bool false, .bool false] w (FbP u w) := by
  have hu : u < 16 ^ 16 := by simpa using h1
  have HU := Lib.hid hu
  have hu0 : (0 : Int) ≤ (u : Int) := by omega
  clear hu
  go_enter Tryd.func60, Tryd.ntmps60
  go_wp2_with (first
    | (go_at_call 80; refine (Pow2 _).mono ?_; rintro e w' ⟨rfl, rfl⟩)
    | (go_at_call 81; refine (Tz _ (Lib.cell?_alloc_some _ hT)).mono ?_; rintro e w' ⟨rfl, rfl⟩))
  go_loopw [1, 13] (fun x i wr => ∃ (v p m : Nat) (tl : List Int) (C : Array Value), x = .int .u64 v ∧ i = .int .i64 p ∧ Hid (hexL u = hexL v ++ tl) ∧ Hid (v < 16 ^ m) ∧ m + tl.length = 16 ∧ wr.heap[w.heap.size]? = some (.cells C 104 (0, 0)) ∧ Hid (Digs C p tl) ∧ Below w.heap.size w wr) (fun x _ _ => (intOf x).toNat)
  case atStart => exact ⟨u, 65, 16, [], Tryd.zeroCells104, rfl, rfl, Lib.hid (by simp), Lib.hid HU.out, rfl, heap_alloc_new w _, Lib.hid ⟨zero104, rfl, fun j hj => by simp at hj⟩, (Below.refl _ _).alloc (Nat.le_refl _) _⟩
  case round =>
    obtain ⟨v, p, m, tl, C, rfl, rfl, HE, HM, hmt, hblk, HD, hbl⟩ := hrel
    have hp65 := HD.out.2.1
    have hCs := HD.out.1
    have hp49 : 49 ≤ p := by omega
    have hv64 : v < 18446744073709551616 := Nat.lt_of_lt_of_le HM.out (by
      have : 16 ^ m ≤ 16 ^ 16 := Nat.pow_le_pow_right (by decide) (by omega)
      simpa using this)
    obtain ⟨p', rfl⟩ : ∃ p', p = p' + 1 := ⟨p - 1, by omega⟩
    have hcell : ∃ z, wr.cell? ⟨w.heap.size, p', none⟩ = some z := by
      rw [cell_of_row wr w.heap.size p' C 104 (0, 0) hblk, Array.getElem?_eq_getElem (by omega)]
      exact ⟨_, rfl⟩
    obtain ⟨z, hz⟩ := hcell
    have hfz := frozen_of_row wr w.heap.size p' C 104 hblk
    have HBK := Lib.hid hblk
    have HBL := Lib.hid hbl
    have hpp : (0 : Int) ≤ (p' : Int) := by omega
    have hp64 : (p' : Int) < 65 := by omega
    by_cases h16 : v < 16
    · have hdig := digAt v h16
      have HE2 := Lib.hid (show hexL u = hexd v :: tl by rw [HE.out, hexL_lt h16]; rfl)
      have HD2 := Lib.hid (HD.out.put (hexd v))
      have hbk2 := heap_setCell_same wr w.heap.size p' C 104 (.int .u8 (hexd v)) hblk
      have HBK2 := Lib.hid hbk2
      have h16' : (v : Int) < 16 := by omega
      have hlen : (hexd v :: tl).length = 65 - p' := by simp; omega
      have hcv : (convert 40 9 (.slice (some ⟨w.heap.size, p', none⟩) (65 - p') (65 - p'))).run Tryd.prog (wr.setCell ⟨w.heap.size, p', none⟩ (.int .u8 (hexd v))) = .ok (.string (strOfNums (hexd v :: tl))) (wr.setCell ⟨w.heap.size, p', none⟩ (.int .u8 (hexd v))) :=
        run_convert_bytes_arg (P := Tryd.prog) _ 40 5 Tryd.underlying40 Tryd.underlying5 w.heap.size p' (65 - p') (65 - p') _ hlen (fun i hi => by
          rw [cell_of_row _ w.heap.size (p' + i) _ 104 (0, 0) HBK2.out]
          exact HD2.out.2.2 i (by omega)) 9 Tryd.underlying9
      clear hblk hbl hbk2 hlen
      generalize hq : hexd v = q at *
      have hsa := sliceA w.heap.size p' (by omega)
      clear hq
      go_wp2
      go_ret2
      exact ⟨by rw [HE2.out]; rfl, HBL.out.setCell (p := ⟨w.heap.size, p', none⟩) (Nat.le_refl _) _⟩
    · have hand := and15 v hv64
      have hd16 : v % 16 < 16 := Nat.mod_lt _ (by decide)
      have hlt := Nat.div_lt_self (show 0 < v by omega) (show 1 < 16 by decide)
      have hm2 : 1 ≤ m := by
        rcases Nat.eq_zero_or_pos m with h | h
        · subst h; have := HM.out; simp at this; omega
        · exact h
      have HE2 := Lib.hid (show hexL u = hexL (v / 16) ++ (hexd (v % 16) :: tl) by rw [HE.out, hexL_ge h16]; simp)
      have HM2 := Lib.hid (show v / 16 < 16 ^ (m - 1) by
        have h := HM.out
        rw [show m = m - 1 + 1 by omega, Nat.pow_succ] at h
        omega)
      have HD2 := Lib.hid (HD.out.put (hexd (v % 16)))
      have hbk2 := heap_setCell_same wr w.heap.size p' C 104 (.int .u8 (hexd (v % 16))) hblk
      have HBK2 := Lib.hid hbk2
      have hdig := digAt (v % 16) hd16
      have hdv : (v : Int) / 16 = ((v / 16 : Nat) : Int) := by omega
      have h16' : ¬ (v : Int) < 16 := by omega
      clear hblk hbl hbk2
      generalize hq : hexd (v % 16) = q at *
      generalize v % 16 = d at *
      clear hq hdv
      go_wp2
      go_roundw
      case rel => exact ⟨v / 16, p', m - 1, q :: tl, _, by go_num, by go_num, HE2, HM2, by simp; omega, HBK2.out, HD2, HBL.out.setCell (p := ⟨w.heap.size, p', none⟩) (Nat.le_refl _) _⟩
      case measure => simp [intOf]; omega
end Go.Proofs.YtojnojjiblcmcaaDoor
