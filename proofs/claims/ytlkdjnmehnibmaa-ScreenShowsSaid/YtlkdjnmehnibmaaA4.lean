/- Package screen: check of a view with points alone. -/
import Derived.Test.YtlkdjnmehnibmaaA3
namespace Go.Proofs.Ytlkdjnmehnibmaa
open Go.RowKit

def ptRow (f : Nat → Int × Int) (i : Nat) : List Value := [.int .i64 (f i).1, .int .i64 (f i).2]
def PtOk (p : Int × Int) : Prop := -1000000 ≤ p.1 ∧ p.1 ≤ 1000000 ∧ -1000000 ≤ p.2 ∧ p.2 ≤ 1000000
theorem pt_cells {w : World} {N n : Nat} {A : Option Addr} {f : Nat → Int × Int} (h : Sl w N 2 A n (ptRow f)) (hn : 0 < n) : ∃ b off, A = some ⟨b, off, none⟩ ∧ b < N ∧ ∀ i, i < n → w.cell? ⟨b, off + i * 2, none⟩ = some (.int .i64 (f i).1) ∧ w.cell? ⟨b, off + i * 2 + 1, none⟩ = some (.int .i64 (f i).2) := by
  obtain ⟨b, off, e, hb, hr⟩ := h hn
  exact ⟨b, off, e, hb, fun i hi => ⟨hr i hi 0 _ rfl, hr i hi 1 _ rfl⟩⟩

set_option maxRecDepth 100000 in
set_option maxHeartbeats 4000000 in
theorem check_pts (cx cy sc wd ht : Int) (A : Option Addr) (n c : Nat) (f : Nat → Int × Int) (w : World) (h1 : -1000000 ≤ cx) (h2 : cx ≤ 1000000) (h3 : -1000000 ≤ cy) (h4 : cy ≤ 1000000) (h5 : 1 ≤ sc) (h6 : sc ≤ 50000) (hb : sideE wd ht = 0)
    (hA : Sl w w.heap.size 2 A n (ptRow f)) (hn : n ≤ 32) (hf : ∀ i, i < n → PtOk (f i)) :
    Calls Try.prog 25 #[.agg #[.int .i64 cx, .int .i64 cy, .int .i64 sc, .int .i64 wd, .int .i64 ht], .slice none 0 0, .slice A n c] w fun e w' => e = .returned (.int .i64 0) ∧ Below w.heap.size w w' := by
  have HC := Lib.hid (fun W => Check_ok cx cy sc wd ht W h1 h2 h3 h4 h5 h6)
  rw [hb] at HC
  have HA := Lib.hid hA
  have HF := Lib.hid hf
  have n0 : (0 : Int) ≤ (n : Int) := by omega
  have n32 : decide ((32 : Int) < (n : Int)) = false := decide_eq_false (by omega)
  clear hb hA hf h1 h2 h3 h4 h5 h6
  go_enter Try.func25, Try.ntmps25
  go_wp2_with (go_at_call 21; go_loud (refine (HC.out _).mono ?_; rintro e w1 ⟨rfl, hb1⟩; have hz1 := hb1.size; simp at hz1; have HB1 := Lib.hid (((Below.refl _ w).alloc (Nat.le_refl _) _).trans (hb1.mono (by simp))); clear hb1))
  go_loop [31] (fun x => x = .int .i64 (0 : Nat)) (fun _ => 0)
  case atStart => rfl
  case round =>
    obtain rfl := hrel
    go_wp2
    go_loopw [53] (fun x wr => ∃ j : Nat, j ≤ n ∧ x = .int .i64 j ∧ Below w.heap.size w wr) (fun x _ => n - (intOf x).toNat)
    case atStart => exact ⟨0, by omega, rfl, HB1.out⟩
    case round =>
      obtain ⟨j, hj, rfl, hbw⟩ := hrel
      have HBW := Lib.hid hbw
      by_cases hlt : j < n
      · obtain ⟨b, off, rfl, hbl, hr⟩ := pt_cells HA.out (by omega)
        obtain ⟨r0, r1⟩ := hr j hlt
        have o0 := (hbw.cell (p := ⟨b, off + j * 2, none⟩) hbl).trans r0
        have o1 := (hbw.cell (p := ⟨b, off + j * 2 + 1, none⟩) hbl).trans r1
        obtain ⟨p1, p2, p3, p4⟩ := HF.out j hlt
        generalize (f j).1 = x at *
        generalize (f j).2 = y at *
        have HP := Lib.hid (fun W => PCheck_ok x y W p1 p2 p3 p4)
        have hj0 : (0 : Int) ≤ (j : Int) := by omega
        have hjn : (j : Int) < (n : Int) := by omega
        have hz := hbw.size
        have hbwr : b < wr.heap.size := by omega
        clear hr r0 r1 hbw p1 p2 p3 p4
        go_wp2_with (go_at_call 22; go_loud (refine (HP.out _).mono ?_; rintro e w2 ⟨rfl, hb2⟩))
        go_roundw
        case rel => exact ⟨j + 1, by omega, by go_num, HBW.out.trans (((Below.refl _ wr).alloc (Nat.le_refl _) _ |>.trans (hb2.mono (by simp))).mono hz)⟩
        case measure => simp [intOf]; omega
      · obtain rfl : n = j := by omega
        go_wp2
        go_ret
        exact ⟨rfl, HBW.out⟩
end Go.Proofs.Ytlkdjnmehnibmaa
