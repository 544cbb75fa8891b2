/- Package polygon: the next point, twice the area. -/
import Derived.Test.YtdmecagdjbjgjaaR4
namespace Go.Proofs.Ytdmecagdjbjgjaa
open Go.RowKit

def ptRow (f : Nat → Int × Int) (i : Nat) : List Value := [.int .i64 (f i).1, .int .i64 (f i).2]
def PtOk (p : Int × Int) : Prop := Bd 1000000 p.1 ∧ Bd 1000000 p.2
theorem pt_cells {w : World} {N n : Nat} {A : Option Addr} {f : Nat → Int × Int} (h : Sl w N 2 A n (ptRow f)) (hn : 0 < n) : ∃ b off, A = some ⟨b, off, none⟩ ∧ b < N ∧ ∀ i, i < n → w.cell? ⟨b, off + i * 2, none⟩ = some (.int .i64 (f i).1) ∧ w.cell? ⟨b, off + i * 2 + 1, none⟩ = some (.int .i64 (f i).2) := by
  obtain ⟨b, off, e, hb, hr⟩ := h hn
  exact ⟨b, off, e, hb, fun i hi => ⟨hr i hi 0 _ rfl, hr i hi 1 _ rfl⟩⟩
def ptV (p : Int × Int) : Value := .agg #[.int .i64 p.1, .int .i64 p.2]

set_option maxRecDepth 100000 in
set_option maxHeartbeats 4000000 in
theorem next_any (A : Option Addr) (n c : Nat) (F : Nat → Int × Int) (i : Nat) (w : World) (hS : Sl w w.heap.size 2 A n (ptRow F)) (hi : i < n) (hn : n ≤ 16) :
    Calls Try.prog 59 #[.slice A n c, .int .i64 i] w fun E w' => E = .returned (.agg #[.int .i64 (F ((i + 1) % n)).1, .int .i64 (F ((i + 1) % n)).2]) ∧ Below w.heap.size w w' := by
  obtain ⟨b, o, rfl, hb, hc⟩ := pt_cells hS (by omega)
  obtain ⟨j, hj⟩ : ∃ j, (i + 1) % n = j := ⟨_, rfl⟩
  have hjn : j < n := by rw [← hj]; exact Nat.mod_lt _ (by omega)
  obtain ⟨c0, c1⟩ := hc j hjn
  rw [hj]
  have e1 : IntKind.i64.wrap ((i : Int) + 1) = (i : Int) + 1 := IntWalk.i64_in _ (by omega)
  have e2 : ((i : Int) + 1).tmod (n : Int) = (j : Int) := by
    rw [Int.tmod_eq_emod_of_nonneg (by omega), ← hj, Int.natCast_emod, Int.natCast_add]
    rfl
  have e3 : ((n : Int) == 0) = false := beq_eq_false_iff_ne.2 (by omega)
  have e4 : ((n : Int) == -1) = false := beq_eq_false_iff_ne.2 (by omega)
  have e5 : (0 : Int) ≤ (j : Int) := by omega
  have e6 : (j : Int) < (n : Int) := by omega
  generalize (F j).1 = x at *
  generalize (F j).2 = y at *
  clear hS hc hi hn hj hjn
  go_enter Try.func59, Try.ntmps59
  go_wp2
  refine bodyPost_ret (v := .agg #[.int .i64 x, .int .i64 y]) (by simp [results, Try.results59, go_sem]) rfl ⟨rfl, ?_⟩
  exact (Below.refl _ w).alloc (Nat.le_refl _) _

def crC (p q : Int × Int) : Int := p.1 * q.2 - p.2 * q.1
def sumC (F : Nat → Int × Int) (n : Nat) : Nat → Int
  | 0 => 0
  | k + 1 => sumC F n k + crC (F k) (F ((k + 1) % n))
theorem crC_bd {p q : Int × Int} (hp : PtOk p) (hq : PtOk q) : -2000000000000 ≤ crC p q ∧ crC p q ≤ 2000000000000 := by
  have m1 := mul_bd hp.1 hq.2
  have m2 := mul_bd hp.2 hq.1
  unfold crC
  omega
theorem sumC_bd {F : Nat → Int × Int} {n : Nat} (hF : ∀ i, i < n → PtOk (F i)) : ∀ k, k ≤ n → -(k : Int) * 2000000000000 ≤ sumC F n k ∧ sumC F n k ≤ (k : Int) * 2000000000000
  | 0, _ => by simp [sumC]
  | k + 1, h => by
    have ih := sumC_bd hF k (by omega)
    have hb := crC_bd (hF k (by omega)) (hF ((k + 1) % n) (Nat.mod_lt _ (by omega)))
    simp only [sumC]
    omega
theorem k1_below {w3 W W' : World} {b o : Nat} {x y : Value} (hb : Below W.heap.size W W') (hl : b < w3.heap.size) (hs : Below w3.heap.size w3 W ∧ W.cell? ⟨b, o, none⟩ = some x ∧ W.cell? ⟨b, o + 1, none⟩ = some y) :
    Below w3.heap.size w3 W' ∧ W'.cell? ⟨b, o, none⟩ = some x ∧ W'.cell? ⟨b, o + 1, none⟩ = some y := by
  have hz := hs.1.size
  exact ⟨hs.1.trans (hb.mono hz), (hb.cell (p := ⟨b, o, none⟩) (Nat.lt_of_lt_of_le hl hz)).trans hs.2.1, (hb.cell (p := ⟨b, o + 1, none⟩) (Nat.lt_of_lt_of_le hl hz)).trans hs.2.2⟩
theorem k1_out {w w3 W : World} {b o : Nat} {x y : Value} (hb : Below w.heap.size w w3) (hs : Below w3.heap.size w3 W ∧ W.cell? ⟨b, o, none⟩ = some x ∧ W.cell? ⟨b, o + 1, none⟩ = some y) : Below w.heap.size w W := hb.trans (hs.1.mono hb.size)

set_option maxRecDepth 100000 in
set_option maxHeartbeats 8000000 in
theorem twice_any (A : Option Addr) (n c : Nat) (F : Nat → Int × Int) (w : World) (hS : Sl w w.heap.size 2 A n (ptRow F)) (hn : n ≤ 16) (hF : ∀ i, i < n → PtOk (F i)) :
    Calls Try.prog 61 #[.slice A n c] w fun E w' => E = .returned (.int .i64 (sumC F n n)) ∧ Below w.heap.size w w' := by
  have HS := Lib.hid hS
  have HF := Lib.hid hF
  have HN := Lib.hid hn
  clear hS hF
  go_enter Try.func61, Try.ntmps61
  go_wp2
  go_loopw [3, 7] (fun x y wr => ∃ k : Nat, k ≤ n ∧ y = .int .i64 k ∧ x = .int .i64 (sumC F n k) ∧ Below w.heap.size w wr) (fun _ y _ => n - (intOf y).toNat)
  case atStart => exact ⟨0, by omega, rfl, rfl, Below.refl _ w⟩
  case round =>
    obtain ⟨k, hk, rfl, rfl, hbw⟩ := hrel
    have HBW := Lib.hid hbw
    by_cases hlt : k < n
    · have hz := hbw.size
      obtain ⟨b, o, hA, hbl, hr⟩ := pt_cells HS.out (by omega)
      have HNX := Lib.hid (fun W (hW : Below w.heap.size w W) => next_any A n c F k W ((HS.out.below hW).more hW.size) hlt HN.out)
      have hP := HF.out k hlt
      have hQ := HF.out ((k + 1) % n) (Nat.mod_lt _ (by omega))
      have hs1 := sumC_bd HF.out k (by omega)
      have hs2 := sumC_bd HF.out (k + 1) (by omega)
      have HCR := Lib.hid (fun W => Cross_any (F k).1 (F k).2 (F ((k + 1) % n)).1 (F ((k + 1) % n)).2 W (by have := hP.1; omega) (by have := hP.2; omega) (by have := hQ.1; omega) (by have := hQ.2; omega))
      have HSU : Hid (sumC F n (k + 1) = sumC F n k + crC (F k) (F ((k + 1) % n))) := Lib.hid rfl
      have e1 : IntKind.i64.wrap (sumC F n k + ((F k).1 * (F ((k + 1) % n)).2 - (F k).2 * (F ((k + 1) % n)).1)) = sumC F n (k + 1) := IntWalk.i64_in _ (by have := HSU.out; unfold crC at this; omega)
      obtain ⟨r0, r1⟩ := hr k hlt
      have o0 := (hbw.cell (p := ⟨b, o + k * 2, none⟩) hbl).trans r0
      have o1 := (hbw.cell (p := ⟨b, o + k * 2 + 1, none⟩) hbl).trans r1
      have hs0 : Below wr.heap.size wr wr.drew ∧ wr.drew.cell? ⟨b, o + k * 2, none⟩ = some (.int .i64 (F k).1) ∧ wr.drew.cell? ⟨b, o + k * 2 + 1, none⟩ = some (.int .i64 (F k).2) := ⟨(Below.refl _ _).drew, o0, o1⟩
      have hl : b < wr.heap.size := by omega
      have hj0 : (0 : Int) ≤ (k : Int) := by omega
      have hjn : (k : Int) < (n : Int) := by omega
      subst hA
      clear hr r0 r1 o0 o1 hbw hP hQ hs1 hs2 hbl hlt
      go_wp2
      go_region_held3 (fun W => Below wr.heap.size wr W ∧ W.cell? ⟨b, o + k * 2, none⟩ = some (.int .i64 (F k).1) ∧ W.cell? ⟨b, o + k * 2 + 1, none⟩ = some (.int .i64 (F k).2)) (first | assumption | exact k1_below (by assumption) hl (by assumption)) (first
        | (go_at_call 59; go_loud (refine (HNX.out _ (k1_out HBW.out (by assumption))).mono ?_; rintro E w1 ⟨rfl, hb1⟩))
        | (go_at_call 77; go_loud (refine (HCR.out _).mono ?_; rintro E w2 ⟨rfl, hb2⟩)))
      all_goals
        go_wp2
        go_roundw
        case rel => exact ⟨k + 1, by omega, by go_num, by first | rfl | simp, k1_out HBW.out (by assumption)⟩
        case measure => simp [intOf]; omega
    · obtain rfl : n = k := by omega
      go_wp2
      go_ret
      exact ⟨rfl, HBW.out⟩
end Go.Proofs.Ytdmecagdjbjgjaa
