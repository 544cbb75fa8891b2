/- The walk of HoldApart. -/
import Derived.Test.YtjiofgfdfljgmaaA10
namespace Go.Proofs.Ytjiofgfdfljgmaa
open Go.RowKit

theorem one_at {w : World} {b B : Nat} (h : w.heap[b]? = some (.cells #[.int .i64 0] 3 (0, 0))) (hB : b < B) : Sl w B 1 (some ⟨b, 0, none⟩) 1 (fun i => [.int .i64 ((fun _ : Nat => (0 : Int)) i)]) := by
  intro _
  refine ⟨b, 0, rfl, hB, fun i hi j v hj => ?_⟩
  have hj0 : j = 0 := by
    rcases Nat.eq_zero_or_pos j with h | h
    · exact h
    · rw [List.getElem?_eq_none (by simp; omega)] at hj; cases hj
  subst hj0
  obtain rfl : i = 0 := by omega
  cases hj
  exact (cell_of_row w b _ _ 3 (0, 0) h).trans rfl
/-- The stack behind one flight. -/
theorem stack_one (b : Nat) (w : World) (h : w.heap[b]? = some (.cells #[.int .i64 0] 3 (0, 0))) :
    Calls Try.prog 11 #[.slice (some ⟨b, 0, none⟩) 1 1] w fun e w' => ∃ (g : Nat) (now : Int) (v vi vo : Value) (ins outs : List ByteArray), e = .returned (.tuple #[.pointer (some ⟨g, 0, none⟩), vi, vo]) ∧ St w g 1 now v [(sF0, 3000, 0)] ins outs vi vo w' := by
  have hb : b < w.heap.size := (Array.getElem?_eq_some_iff.1 h).1
  refine (stack_any (some ⟨b, 0, none⟩) 1 1 1 (fun _ => 0) w (one_at h hb) (Nat.le_refl _) (by decide) (fun h => by cases h) rfl).mono ?_
  rintro e w' ⟨g, now, v, ls, ins, outs, vi, vo, he, hst, h1⟩
  have := h1 rfl (by decide)
  subst this
  exact ⟨g, now, v, vi, vo, ins, outs, he, hst⟩

def lastH (ls : List Lv) : Nat → Int
  | 0 => 2000
  | k + 1 => hOf ls k
theorem lastH_up {ls : List Lv} {now : Int} (h : Good ls now) {j : Nat} (hj : j < ls.length) : lastH ls j + 1000 ≤ hOf ls j := by
  cases j with
  | zero => have := (h.lo 0 hj).1; show (2000 : Int) + 1000 ≤ _; omega
  | succ k => exact h.up k hj
theorem lastH_bd {ls : List Lv} {now : Int} (h : Good ls now) {j : Nat} (hj : j ≤ ls.length) : 0 ≤ lastH ls j ∧ lastH ls j ≤ 7000 := by
  cases j with
  | zero => exact ⟨by show (0 : Int) ≤ 2000; decide, by show (2000 : Int) ≤ 7000; decide⟩
  | succ k => have := h.lo k (by omega); show 0 ≤ hOf ls k ∧ hOf ls k ≤ 7000; omega
theorem lvs_row (ls : List Lv) {j : Nat} (hj : j < ls.length) : (lvs ls)[j * 3]? = some (.string (at_ ls j).1) ∧ (lvs ls)[j * 3 + 1]? = some (.int .i64 (hOf ls j)) ∧ (lvs ls)[j * 3 + 2]? = some (.int .i64 (tOf ls j)) := by
  unfold lvs
  refine ⟨?_, ?_, ?_⟩
  · have := flatR_get (row := fun i => lvV ls[i]!) (k := 3) ls.length (fun _ _ => rfl) j 0 hj (by decide)
    rw [Nat.add_zero] at this; rw [this]; rfl
  · rw [flatR_get (row := fun i => lvV ls[i]!) (k := 3) ls.length (fun _ _ => rfl) j 1 hj (by decide)]; rfl
  · rw [flatR_get (row := fun i => lvV ls[i]!) (k := 3) ls.length (fun _ _ => rfl) j 2 hj (by decide)]; rfl

set_option maxRecDepth 100000 in
set_option maxHeartbeats 8000000 in
theorem Apart_any (A : Option Addr) (n c : Nat) (f : Nat → Int) (w : World) (hA : Sl w w.heap.size 1 A n (fun i => [.int .i64 (f i)])) (hn : n ≤ c) (hc : c ≤ maxLen) (hnil : A = none → n = 0 ∧ c = 0) :
    Calls Try.prog 4 #[.slice A n c] w fun e w' => e = .returned (.bool true) ∧ Below w.heap.size w w' := by
  have hs1 := Lib.hid (stack_any A n c (min n 30) f w hA hn hc hnil rfl)
  clear hA hn hc hnil
  have tok1 : True := trivial
  have tok2 : True := trivial
  have tok3 : True := trivial
  go_enter Try.func4, Try.ntmps4
  go_wp2_with (first
    | (go_at_call 11; have _t := tok1; refine hs1.out.mono ?_; rintro e w1 ⟨g, now, v, ls, ins, outs, vi, vo, rfl, hst, hone⟩; have HS := Lib.hid hst; clear hst hone tok1)
    | (go_at_call 11; go_loud (refine (stack_one w1.heap.size _ (heap_alloc_new w1 _)).mono ?_; rintro e w2 ⟨g2, now2, v2, vi2, vo2, ins2, outs2, rfl, hst2⟩; have HS2 := Lib.hid hst2; clear hst2))
    | (go_at_call 12; have _t := tok2; go_loud (refine (List_any HS2.out.stk (by decide)).mono ?_; rintro e w3 ⟨L3, c3, rfl, hl3, hb3⟩; have HS3 := Lib.hid (HS2.out.below hb3); clear hl3 tok2))
    | (go_at_call 12; have _t := tok3; go_loud (refine (List_any HS3.out.stk (by decide)).mono ?_; rintro e w4 ⟨L4, c4, rfl, hl4, hb4⟩; obtain ⟨g4, cap4, hlv4, hg4, hlt4⟩ := hl4.form (by decide); have hL4 : L4 = some ⟨g4, 0, none⟩ := (Value.slice.inj hlv4).1; subst hL4; have cl4 := hl4.cellAt 1 (by decide); have cl4' : w4.cell? ⟨g4, 1, none⟩ = some (.int .i64 3000) := cl4; have hlen1 : [(sF0, (3000 : Int), (0 : Int))].length = 1 := rfl; clear hl4 hlv4 tok3 cl4)))
  have hb14 : Below w1.heap.size w1 w4 := bstep (((Below.refl _ _).alloc (Nat.le_refl _) _).trans (HS2.out.bel.mono (by simp))) (bstep hb3 hb4)
  have hS4 := HS.out.below hb14
  have HS4 := Lib.hid hS4
  have hlen := HS.out.good.len
  clear hS4 hlen1
  go_wp2_with (go_at_call 12; go_loud (refine (List_any HS4.out.stk (by omega)).mono ?_; rintro e w5 ⟨L5, c5, rfl, hl5, hb5⟩; have HL5 := Lib.hid hl5; clear hl5))
  have hbel := bstep HS4.out.bel hb5
  generalize hnn : ls.length = q at *
  have HNN := Lib.hid hnn
  clear hnn hb3 hb4 hb14
  go_loopw [9, 47] (fun u x wr => ∃ j : Nat, j ≤ q ∧ x = .int .i64 j ∧ u = .int .i64 (lastH ls j) ∧ Below w5.heap.size w5 wr) (fun _ x _ => q - (intOf x).toNat)
  case atStart => exact ⟨0, by omega, rfl, rfl, Below.refl _ _⟩
  case round =>
    obtain ⟨j, hj, rfl, rfl, hb⟩ := hrel
    by_cases hlt : j < q
    · obtain ⟨gl, lcap, hlv, hgl, hltl⟩ := HL5.out.form (by have := HNN.out; omega)
      have hL5 : L5 = some ⟨gl, 0, none⟩ := (Value.slice.inj hlv).1
      subst hL5
      obtain ⟨r0, r1, r2⟩ := lvs_row ls (j := j) (by have := HNN.out; omega)
      have hown := HL5.out
      have o0 := (hb.cell (p := ⟨gl, j * 3, none⟩) hltl).trans ((hown.cellAt (j * 3) (by omega)).trans r0)
      have o1 := (hb.cell (p := ⟨gl, j * 3 + 1, none⟩) hltl).trans ((hown.cellAt (j * 3 + 1) (by omega)).trans r1)
      have o2 := (hb.cell (p := ⟨gl, j * 3 + 2, none⟩) hltl).trans ((hown.cellAt (j * 3 + 2) (by omega)).trans r2)
      have hlo := HS.out.good.lo j (by have := HNN.out; omega)
      have hup := lastH_up HS.out.good (j := j) (by have := HNN.out; omega)
      have hbd := lastH_bd HS.out.good (j := j) (by have := HNN.out; omega)
      have HN : Hid (lastH ls (j + 1) = hOf ls j) := Lib.hid rfl
      have hj0 : (0 : Int) ≤ (j : Int) := by omega
      have hjq : (j : Int) < (q : Int) := by omega
      have hgw : gl < wr.heap.size := Nat.lt_of_lt_of_le hltl hb.size
      generalize hOf ls j = y at *
      generalize lastH ls j = z at *
      generalize tOf ls j = tt at *
      generalize (at_ ls j).1 = nm at *
      have hmod : (y % 1000 != 0) = false := by simp; omega
      obtain ⟨hy1, hy2, hy3⟩ := hlo
      have HY3 := Lib.hid hy3
      clear hlv hown r0 r1 r2 hy3
      go_wp2
      go_roundw
      case rel => exact ⟨j + 1, by omega, by go_num, by rw [HN.out], hb.alloc hb.size _⟩
      case measure => simp [intOf]; omega
    · obtain rfl : q = j := by omega
      go_wp2
      go_ret
      exact ⟨rfl, bstep hbel hb⟩
end Go.Proofs.Ytjiofgfdfljgmaa
