/- slices.BinarySearchFunc at a struct, the target a string, one instance. -/
import Derived.Test.YtjmdebeffpdpcaaGreatDoorMore
namespace Go.Proofs.YtjmdebeffpdpcaaGreatDoor
open Go.RowKit

/-- What a search leaves. -/
def BsfRwP (_ lo : Nat) (is : Bool) (w : World) (e : Ending) (w' : World) : Prop := e = .returned (.tuple #[.int .i64 (lo : Int), .bool is]) ∧ Below w.heap.size w w'

set_option maxRecDepth 100000 in
set_option maxHeartbeats 4000000 in
theorem BsfRw_any (A : Option Addr) (n c p : Nat) (f : Nat → (ByteArray × ByteArray)) (t : ByteArray) (cf : (ByteArray × ByteArray) → Int) (w : World) (hA : Sl w w.heap.size 2 A n (fun i => (fun x : (ByteArray × ByteArray) => [.string x.1, .string x.2]) (f i))) (hn : n ≤ 1000000) (hp : p ≤ n)
    (hcmp : ∀ (W : World) (x : (ByteArray × ByteArray)), Below w.heap.size w W → Calls Tryz.prog 70 #[.agg #[.string x.1, .string x.2], .string t] W fun e w' => e = .returned (.int .i64 (cf x)) ∧ Below W.heap.size W w')
    (hlo : ∀ i, i < p → cf (f i) < 0) (hhi : ∀ i, p ≤ i → i < n → 0 ≤ cf (f i)) :
    Calls Tryz.prog 69 #[.slice A n c, .string t, .func (.func 70) #[] #[]] w (BsfRwP n p (decide (p < n) && decide (cf (f p) = 0)) w) := by
  have HA := Lib.hid hA
  have HC := Lib.hid hcmp
  have HL := Lib.hid hlo
  have HH := Lib.hid hhi
  clear hA hcmp hlo hhi
  go_enter Tryz.func69, Tryz.ntmps69
  go_wp2
  go_loopw [9, 10] (fun a b wr => ∃ lo hi : Nat, a = .int .i64 lo ∧ b = .int .i64 hi ∧ lo ≤ p ∧ p ≤ hi ∧ hi ≤ n ∧ Below w.heap.size w wr) (fun a b _ => (intOf b).toNat - (intOf a).toNat)
  case atStart => exact ⟨0, n, rfl, rfl, Nat.zero_le _, hp, Nat.le_refl _, Below.refl _ _⟩
  case round =>
    obtain ⟨lo, hi, rfl, rfl, hlp, hph, hin, hbl⟩ := hrel
    by_cases hlt : lo < hi
    · obtain ⟨b, off, rfl, hb, hr⟩ := HA.out (by omega)
      have hmid : (lo + hi) / 2 < n := by omega
      have hmid2 : (lo + hi) / 2 < hi := by omega
      have c0 : wr.cell? ⟨b, off + (lo + hi) / 2 * 2, none⟩ = some (.string (f ((lo + hi) / 2)).1) := (hbl.cell (p := ⟨b, _, none⟩) hb).trans (hr ((lo + hi) / 2) hmid 0 _ rfl)
      have c1 : wr.cell? ⟨b, off + (lo + hi) / 2 * 2 + 1, none⟩ = some (.string (f ((lo + hi) / 2)).2) := (hbl.cell (p := ⟨b, _, none⟩) hb).trans (hr ((lo + hi) / 2) hmid 1 _ rfl)
      clear hr
      generalize hy : f ((lo + hi) / 2) = x at c0 c1
      have HY := Lib.hid hy
      have HB := Lib.hid hbl
      clear hy hbl
      by_cases hx : cf x < 0
      · have hpm : (lo + hi) / 2 < p := by
          refine Nat.lt_of_not_le fun h => ?_
          have := HH.out _ h hmid
          rw [HY.out] at this; omega
        go_wp2_with (go_at_call 70; go_loud (refine (HC.out _ x HB.out).mono ?_; rintro e w' ⟨rfl, hb'⟩))
        go_roundw
        case rel => exact ⟨(lo + hi) / 2 + 1, hi, by rw [show ((lo : Int) + (hi : Int)) / 2 + 1 = (((lo + hi) / 2 + 1 : Nat) : Int) by omega], rfl, by omega, hph, hin, HB.out.trans (hb'.mono HB.out.size)⟩
        case measure => simp [intOf]; omega
      · have hpm : p ≤ (lo + hi) / 2 := by
          refine Nat.le_of_not_lt fun h => ?_
          exact hx (by rw [← HY.out]; exact HL.out _ h)
        go_wp2_with (go_at_call 70; go_loud (refine (HC.out _ x HB.out).mono ?_; rintro e w' ⟨rfl, hb'⟩))
        go_roundw
        case rel => exact ⟨lo, (lo + hi) / 2, rfl, by rw [show ((lo : Int) + (hi : Int)) / 2 = (((lo + hi) / 2 : Nat) : Int) by omega], hlp, hpm, by omega, HB.out.trans (hb'.mono HB.out.size)⟩
        case measure => simp [intOf]; omega
    · obtain rfl : lo = p := by omega
      obtain rfl : lo = hi := by omega
      by_cases hlt : lo < n
      · obtain ⟨b, off, rfl, hb, hr⟩ := HA.out (by omega)
        have c0 : wr.cell? ⟨b, off + lo * 2, none⟩ = some (.string (f lo).1) := (hbl.cell (p := ⟨b, _, none⟩) hb).trans (hr lo hlt 0 _ rfl)
        have c1 : wr.cell? ⟨b, off + lo * 2 + 1, none⟩ = some (.string (f lo).2) := (hbl.cell (p := ⟨b, _, none⟩) hb).trans (hr lo hlt 1 _ rfl)
        clear hr
        generalize hy : f lo = x at c0 c1
        have HB := Lib.hid hbl
        have HY := Lib.hid hy
        clear hy hbl
        by_cases hx : cf x = 0
        · have HV := Lib.hid (show (decide (lo < n) && decide (cf (f lo) = 0)) = true by rw [HY.out]; simp [hlt, hx])
          have hx' : (cf x == 0) = true := by simp [hx]
          have HX := Lib.hid hx
          clear hx
          go_wp2_with (go_at_call 70; go_loud (refine (HC.out _ x HB.out).mono ?_; rintro e w' ⟨rfl, hb'⟩))
          go_ret2
          exact ⟨by rw [HV.out]; rfl, HB.out.trans (hb'.mono HB.out.size)⟩
        · have HV := Lib.hid (show (decide (lo < n) && decide (cf (f lo) = 0)) = false by rw [HY.out]; simp [hx])
          have hx' : (cf x == 0) = false := by simp [hx]
          have HX := Lib.hid hx
          clear hx
          go_wp2_with (go_at_call 70; go_loud (refine (HC.out _ x HB.out).mono ?_; rintro e w' ⟨rfl, hb'⟩))
          go_ret2
          exact ⟨by rw [HV.out]; rfl, HB.out.trans (hb'.mono HB.out.size)⟩
      · have HV := Lib.hid (show (decide (lo < n) && decide (cf (f lo) = 0)) = false by simp [hlt])
        have HB := Lib.hid hbl
        clear hbl
        go_wp2
        go_ret2
        exact ⟨by rw [HV.out]; rfl, HB.out⟩

end Go.Proofs.YtjmdebeffpdpcaaGreatDoor
