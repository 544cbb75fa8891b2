/- Package screen: the walk of ScreenSwapped. -/
import Derived.Test.YtlkdjnmehnibmaaA9
namespace Go.Proofs.Ytlkdjnmehnibmaa
open Go.RowKit

def LineP (n : Nat) (code : Int) (F : Nat → Int × Int) (w : World) (e : Ending) (w' : World) : Prop :=
  ∃ A c, e = .returned (.tuple #[.slice A n c, .int .i64 code]) ∧ w'.ownsRow w.heap.size 27 2 (.slice A n c) n (flatR (ptRow F) n) ∧ Below w.heap.size w w'
def LineS (x1 y1 x2 y2 : Int) (n : Nat) (code : Int) (F : Nat → Int × Int) : Prop :=
  ∀ w, Calls Try.prog 15 #[.agg #[.int .i64 x1, .int .i64 y1], .agg #[.int .i64 x2, .int .i64 y2]] w (LineP n code F w)
theorem farB_swap (x y : Int) : farB y x = farB x y := by
  unfold farB
  cases decide (x < -2000) <;> cases decide (2000 < x) <;> cases decide (y < -2000) <;> cases decide (2000 < y) <;> rfl
theorem lnN_swap (dx dy : Int) : lnN dy dx = lnN dx dy := by unfold lnN; omega
theorem lnN_nonneg (dx dy : Int) : 0 ≤ lnN dx dy := by unfold lnN; omega
theorem Line_both (x1 y1 x2 y2 : Int) : ∃ (n : Nat) (code : Int) (F : Nat → Int × Int), n ≤ 5000 ∧ LineS x1 y1 x2 y2 n code F ∧ LineS y1 x1 y2 x2 n code (fun i => ((F i).2, (F i).1)) := by
  cases h : (farB x1 y1 || farB x2 y2) with
  | true =>
    refine ⟨0, 4, fun _ => (0, 0), by omega, fun w => ?_, fun w => ?_⟩
    · exact (Line_far x1 y1 x2 y2 w h).mono fun e w' ⟨h1, h2⟩ => ⟨none, 0, h1, World.ownsRow_nil _ _ _ _, h2⟩
    · exact (Line_far y1 x1 y2 x2 w (by rw [farB_swap x1 y1, farB_swap x2 y2]; exact h)).mono fun e w' ⟨h1, h2⟩ => ⟨none, 0, h1, World.ownsRow_nil _ _ _ _, h2⟩
  | false =>
    rw [Bool.or_eq_false_iff] at h
    obtain ⟨N, hN⟩ : ∃ N : Nat, (N : Int) = lnN (x2 - x1) (y2 - y1) := ⟨(lnN (x2 - x1) (y2 - y1)).toNat, by have := lnN_nonneg (x2 - x1) (y2 - y1); omega⟩
    have b1 := far_in h.1
    have b2 := far_in h.2
    refine ⟨N + 1, 0, lnF x1 y1 (x2 - x1) (y2 - y1) N, by unfold lnN at hN; omega, fun w => ?_, fun w => ?_⟩
    · exact Line_ok x1 y1 x2 y2 N w h.1 h.2 hN
    · exact Line_ok y1 x1 y2 x2 N w (by rw [farB_swap]; exact h.1) (by rw [farB_swap]; exact h.2) (by rw [lnN_swap]; exact hN)

def mixR (F : Nat → Int × Int) (k i : Nat) : List Value := if i < k then ptRow F i else ptRow (fun i => ((F i).2, (F i).1)) i
theorem mixR_len (F : Nat → Int × Int) (k i : Nat) : (mixR F k i).length = 2 := by
  unfold mixR
  split <;> rfl
theorem mixR_set (F : Nat → Int × Int) {k n : Nat} (hk : k < n) : ((flatR (mixR F k) n).set (k * 2) (.int .i64 (F k).1)).set (k * 2 + 1) (.int .i64 (F k).2) = flatR (mixR F (k + 1)) n := by
  have h1 := flatR_set (row := mixR F k) (n := n) (k := 2) (by decide) (fun i _ => mixR_len F k i) k 0 hk (by decide) (.int .i64 (F k).1)
  have h2 := flatR_set (row := fun x => if x = k then (mixR F k k).set 0 (.int .i64 (F k).1) else mixR F k x) (n := n) (k := 2) (by decide) (fun i _ => by
    by_cases e : i = k
    · simp only [e, if_true, List.length_set]; exact mixR_len F k k
    · simp only [e, if_false]; exact mixR_len F k i) k 1 hk (by decide) (.int .i64 (F k).2)
  rw [show k * 2 = k * 2 + 0 from rfl, h1, show k * 2 + 0 + 1 = k * 2 + 1 from rfl, h2]
  congr 1
  funext x
  by_cases e : x = k
  · subst e
    simp [mixR, ptRow]
  · simp only [e, if_false]
    unfold mixR
    by_cases c : x < k
    · rw [if_pos c, if_pos (by omega)]
    · rw [if_neg c, if_neg (by omega)]

set_option maxRecDepth 100000 in
set_option maxHeartbeats 8000000 in
theorem SSwapped_any (x1 y1 x2 y2 : Int) (w : World) :
    Calls Try.prog 5 #[.agg #[.int .i64 x1, .int .i64 y1], .agg #[.int .i64 x2, .int .i64 y2]] w fun e w' => e = .returned (.bool true) ∧ Below w.heap.size w w' := by
  obtain ⟨n, code, F, hn, hl1, hl2⟩ := Line_both x1 y1 x2 y2
  have HL1 := Lib.hid hl1
  have HL2 := Lib.hid hl2
  clear hl1 hl2
  have tok1 : True := trivial
  have tok2 : True := trivial
  obtain ⟨v, hv⟩ : ∃ v, w.heap.size = v := ⟨_, rfl⟩
  go_enter Try.func5, Try.ntmps5
  go_wp2_with (first
    | (go_at_call 15; have _t := tok1; go_loud ((refine (HL1.out _).mono ?_); rintro e w1 ⟨L, cl, rfl, hown1, hb1⟩; have HO1 := Lib.hid hown1; obtain ⟨hc1, hf1⟩ := bcell hb1; have hz1 := hb1.size; simp at hz1; have za1 : w.heap.size < w1.heap.size := (by omega); have zb1 : w.heap.size + 1 < w1.heap.size := (by omega); clear tok1))
    | (go_at_call 15; have _t := tok2; go_loud ((refine (HL2.out _).mono ?_); rintro e w2 ⟨M, cm, rfl, hown2, hb2⟩; have HO2 := Lib.hid hown2; clear tok2)))
  have hm0 : mixR F 0 = ptRow (fun i => ((F i).2, (F i).1)) := by funext i; simp [mixR]
  rw [← hm0] at HO2
  have HB0 : Hid (Below v w w1) := Lib.hid ((((Below.refl v w).alloc (by omega) _).alloc (by simp; omega) _).trans (hb1.mono (by simp; omega)))
  have HB2 := Lib.hid hb2
  have HL : Hid (Sl w1 w1.heap.size 2 L n (ptRow F)) := Lib.hid (Sl_flat (fun _ _ => rfl) HO1.out)
  have hvw : v + 1 < w1.heap.size := by omega
  clear hown1 hown2 hm0 hc1 hf1 hz1 za1 zb1 hb1 hb2 HO1
  go_loopw [33] (fun x wr => ∃ k : Nat, k ≤ n ∧ x = .int .i64 k ∧ wr.ownsRow w1.heap.size 27 2 (.slice M n cm) n (flatR (mixR F k) n) ∧ Below w1.heap.size w1 wr) (fun x _ => n - (intOf x).toNat)
  case atStart => exact ⟨0, by omega, rfl, HO2.out, HB2.out⟩
  case round =>
    obtain ⟨k, hk, rfl, hown, hbr⟩ := hrel
    have HOW := Lib.hid hown
    have HBR := Lib.hid hbr
    have hzr := hbr.size
    by_cases hkn : k < n
    · obtain ⟨g, cap, hlv, hgl, hltl⟩ := hown.form (by omega)
      obtain rfl : M = some ⟨g, 0, none⟩ := (Value.slice.inj hlv).1
      have hl2 : ∀ i, i < n → (mixR F k i).length = 2 := fun i _ => mixR_len F k i
      have hrow : mixR F k k = [.int .i64 (F k).2, .int .i64 (F k).1] := by simp [mixR, ptRow]
      have o0 : wr.cell? ⟨g, k * 2, none⟩ = some (.int .i64 (F k).2) := (hown.cellAt (k * 2) (by omega)).trans (by rw [show k * 2 = k * 2 + 0 from rfl, flatR_get n hl2 k 0 hkn (by omega), hrow]; rfl)
      have o1 : wr.cell? ⟨g, k * 2 + 1, none⟩ = some (.int .i64 (F k).1) := (hown.cellAt (k * 2 + 1) (by omega)).trans (by rw [flatR_get n hl2 k 1 hkn (by omega), hrow]; rfl)
      have f0 := hown.frozenAt (k * 2)
      have f1 := hown.frozenAt (k * 2 + 1)
      have hgn : g ≠ wr.heap.size := by omega
      have hk0 : (0 : Int) ≤ (k : Int) := by omega
      have hkn' : (k : Int) < (n : Int) := by omega
      have HMS := Lib.hid (mixR_set F hkn)
      generalize (F k).1 = a1 at *
      generalize (F k).2 = a2 at *
      clear hlv hown hbr hl2 hrow
      go_wp2
      go_roundw
      case rel =>
        refine ⟨k + 1, by omega, by go_num, ?_, ?_⟩
        · have h0 := (World.ownsRow.stored HOW.out (k * 2) (.int .i64 a1)).1
          have h1 := (World.ownsRow.stored h0 (k * 2 + 1) (.int .i64 a2)).1
          rw [HMS.out] at h1
          exact h1.alloc _
        · exact ((HBR.out.setCell (p := ⟨g, k * 2, none⟩) hgl _).setCell (p := ⟨g, k * 2 + 1, none⟩) hgl _).alloc (by simp; omega) _
      case measure => simp [intOf]; omega
    · obtain rfl : k = n := by omega
      have HM : Hid (Sl wr wr.heap.size 2 M k (ptRow F)) := Lib.hid ((Sl_flat (fun i _ => mixR_len F k i) hown).congr fun i hi => by unfold mixR; rw [if_pos hi])
      have HLr : Hid (Sl wr wr.heap.size 2 L k (ptRow F)) := Lib.hid ((HL.out.below hbr).more hzr)
      clear hown hbr
      go_wp2_with (first
        | (go_at_call 10; go_loud (refine (fact_any _).mono ?_; rintro e w3 ⟨rfl, hb3⟩))
        | (go_at_call 16; go_loud (refine (EqualC L M F k cl cm w3.heap.size w3 ((HLr.out.below hb3).more hb3.size) ((HM.out.below hb3).more hb3.size) (by omega)).mono ?_; rintro e w4 ⟨rfl, q4, rfl⟩)))
      go_ret
      refine ⟨rfl, ?_⟩
      rw [hv]
      exact HB0.out.trans ((HBR.out.trans ((below_drewN hb3 q4).mono hzr)).mono (by omega))
end Go.Proofs.Ytlkdjnmehnibmaa
