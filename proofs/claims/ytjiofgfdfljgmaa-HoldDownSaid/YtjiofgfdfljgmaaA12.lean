/- Package hold: what descents come to. -/
import Derived.Test.YtjiofgfdfljgmaaA11
namespace Go.Proofs.Ytjiofgfdfljgmaa
open Go.RowKit

theorem Good.least {ls : List Lv} {now : Int} (h : Good ls now) : ∀ i, i < ls.length → 3000 + 1000 * (i : Int) ≤ hOf ls i := by
  intro i
  induction i with
  | zero => intro hi; have := (h.lo 0 hi).1; omega
  | succ i ih =>
    intro hi
    have := ih (by omega)
    have := h.up i hi
    omega
theorem dn1_h (p : Option Int) (x : Lv) : (dn1 3000 1000 p x).2.1 = if dnh 3000 1000 p x = true then x.2.1 - 1000 else x.2.1 := by
  unfold dn1
  split <;> rfl
theorem dnA_h {ls : List Lv} {now : Int} (h : Good ls now) : ∀ i, i < ls.length → (dnA 3000 1000 (at_ ls) i).2.1 = max (3000 + 1000 * (i : Int)) (hOf ls i - 1000) := by
  intro i
  induction i with
  | zero =>
    intro hi
    have h0 := h.lo 0 hi
    rw [dnA_eq, dn1_h]
    unfold dnh prevH
    unfold hOf at h0 ⊢
    by_cases c : (3000 : Int) ≤ (at_ ls 0).2.1 - 1000
    · rw [if_pos (by simpa using c)]; omega
    · rw [if_neg (by simpa using c)]; omega
  | succ i ih =>
    intro hi
    have ih := ih (by omega)
    have h0 := h.lo (i + 1) hi
    have h1 := h.up i hi
    have h2 := h.least i (by omega)
    rw [dnA_eq, dn1_h]
    unfold dnh
    rw [show prevH 3000 1000 (at_ ls) (i + 1) = some (dnA 3000 1000 (at_ ls) i).2.1 from rfl, ih]
    unfold hOf at h0 h1 h2 ⊢
    by_cases c : (3000 : Int) ≤ (at_ ls (i + 1)).2.1 - 1000 ∧ max (3000 + 1000 * (i : Int)) ((at_ ls i).2.1 - 1000) < (at_ ls (i + 1)).2.1 - 1000
    · rw [if_pos (by simp only [Bool.and_eq_true, decide_eq_true_eq]; exact c)]; omega
    · rw [if_neg (by simp only [Bool.and_eq_true, decide_eq_true_eq]; exact c)]; omega
/-- Behind k descents. -/
def Lo (ls : List Lv) (k : Nat) : Prop := ∀ i, i < ls.length → hOf ls i ≤ 3000 + 1000 * (i : Int) ∨ hOf ls i ≤ 7000 - 1000 * (k : Int)
theorem Lo.zero {ls : List Lv} {now : Int} (h : Good ls now) : Lo ls 0 := fun i hi => .inr (by have := (h.lo i hi).2.1; omega)
theorem Lo.step {ls : List Lv} {now : Int} {k : Nat} (h : Good ls now) (hl : Lo ls k) : Lo (dnL 3000 1000 ls) (k + 1) := fun i hi => by
  rw [dnL_len] at hi
  have e := dnA_h h i hi
  have e2 : hOf (dnL 3000 1000 ls) i = (dnA 3000 1000 (at_ ls) i).2.1 := by unfold hOf; rw [at_dnL ls hi]
  have := hl i hi
  omega
theorem Lo.all {ls : List Lv} {now : Int} (h : Good ls now) (hl : Lo ls 6) : ∀ i, i < ls.length → hOf ls i = 3000 + 1000 * (i : Int) := fun i hi => by
  have := hl i hi
  have := h.least i hi
  omega
theorem Lo.none_ {ls : List Lv} {now : Int} (h : Good ls now) (hl : Lo ls 6) : ∀ j, j ≤ ls.length → dnN 3000 1000 (at_ ls) j = 0
  | 0, _ => rfl
  | j + 1, hj => by
    have e := dnA_h h j (by omega)
    have e1 := hl.all h j (by omega)
    rw [dnN, Lo.none_ h hl j (by omega), if_neg]
    intro c
    rw [dnA_eq, dn1_h, if_pos c] at e
    unfold hOf at e1 e
    omega

set_option maxRecDepth 100000 in
set_option maxHeartbeats 8000000 in
theorem HDown_any (A : Option Addr) (n c : Nat) (f : Nat → Int) (w : World) (hA : Sl w w.heap.size 1 A n (fun i => [.int .i64 (f i)])) (hn : n ≤ c) (hc : c ≤ maxLen) (hnil : A = none → n = 0 ∧ c = 0) :
    Calls Try.prog 5 #[.slice A n c] w fun e w' => e = .returned (.bool true) ∧ Below w.heap.size w w' := by
  have hs1 := Lib.hid (stack_any A n c (min n 30) f w hA hn hc hnil rfl)
  clear hA hn hc hnil
  have tok1 : True := trivial
  have tok2 : True := trivial
  go_enter Try.func5, Try.ntmps5
  go_wp2_with (first
    | (go_at_call 11; have _t := tok1; refine hs1.out.mono ?_; rintro e w1 ⟨g, now, v, ls, ins, outs, vi, vo, rfl, hst, hone⟩; have HS := Lib.hid hst; clear hst hone tok1)
    | (go_at_call 11; go_loud (refine (stack_one w1.heap.size _ (heap_alloc_new w1 _)).mono ?_; rintro e w2 ⟨g2, now2, v2, vi2, vo2, ins2, outs2, rfl, hst2⟩; have HS2 := Lib.hid hst2; clear hst2))
    | (go_at_call 12; have _t := tok2; go_loud (refine (List_any HS2.out.stk (by decide)).mono ?_; rintro e w3 ⟨L3, c3, rfl, hl3, hb3⟩; have hlen1 : [(sF0, (3000 : Int), (0 : Int))].length = 1 := rfl; clear hl3 tok2)))
  have hb13 : Below w1.heap.size w1 w3 := bstep (((Below.refl _ _).alloc (Nat.le_refl _) _).trans (HS2.out.bel.mono (by simp))) hb3
  have hS3 := HS.out.below hb13
  have HS3 := Lib.hid hS3
  have hlen := HS.out.good.len
  have hbel := HS3.out.bel
  clear hS3 hlen1 hb3 hb13
  generalize hnn : ls.length = q at *
  have HNN := Lib.hid hnn
  clear hnn
  go_loopw [39] (fun x wr => ∃ (j : Nat) (now' : Int) (v' : Value) (ls' : List Lv), j ≤ 6 ∧ x = .int .i64 j ∧ StackAt g 3000 7000 1000 now' v' ls' wr ∧ Good ls' now' ∧ now' ≤ 1000 ∧ Lo ls' j ∧ Hid (ls'.length = q) ∧ Below w.heap.size w wr) (fun x _ => 6 - (intOf x).toNat)
  case atStart => exact ⟨0, now, v, ls, by omega, rfl, HS3.out.stk, HS3.out.good, by have := HS3.out.n1; omega, Lo.zero HS3.out.good, HNN, hbel⟩
  case round =>
    obtain ⟨j, now', v', ls', hj, rfl, hst, hgd, hnow, hlo, HL, hb⟩ := hrel
    have HST := Lib.hid hst
    have HGD := Lib.hid hgd
    have HLO := Lib.hid hlo
    have hq5 := hgd.len
    by_cases hlt : j < 6
    · have hj0 : (0 : Int) ≤ (j : Int) := by omega
      have hj6 : (j : Int) < 6 := by omega
      have hb6 : ∀ i, i < ls'.length → -1000000 ≤ (at_ ls' i).2.1 ∧ (at_ ls' i).2.1 ≤ 1000000 := fun i hi => by
        have h := hgd.lo i hi
        unfold hOf at h
        omega
      have HB6 := Lib.hid hb6
      have hwr : wrongB now' 1000 = false := by unfold wrongB; simp; omega
      have HWR := Lib.hid hwr
      clear hst hgd hlo hb6 hwr
      go_wp2_with (go_at_call 13; go_loud (refine (Down_ok HST.out 1000 (by omega) HWR.out (by omega) HB6.out).mono ?_; rintro e w4 ⟨rfl, hS4, hu4⟩))
      go_roundw
      case rel => exact ⟨j + 1, 1000, _, _, by omega, by go_num, hS4, HGD.out.down hnow, Int.le_refl _, HLO.out.step HGD.out, Lib.hid (by rw [dnL_len]; exact HL.out), hb.trans (hu4.below.mono HS.out.g0)⟩
      case measure => simp [intOf]; omega
    · obtain rfl : j = 6 := by omega
      clear hst hgd hlo
      have hall := HLO.out.all HGD.out
      have HALL := Lib.hid hall
      clear hall
      go_wp2_with (go_at_call 12; go_loud (refine (List_any HST.out (by omega)).mono ?_; rintro e w5 ⟨L5, c5, rfl, hl5, hb5⟩; have HL5 := Lib.hid hl5; clear hl5))
      have hbel2 := hb.trans (hb5.mono hb.size)
      have hnone := HLO.out.none_ HGD.out ls'.length (Nat.le_refl _)
      have HNONE := Lib.hid hnone
      have hq5' := hq5
      have hmm : ∃ m, ls'.length = m := ⟨_, rfl⟩
      obtain ⟨m, hmm⟩ := hmm
      have HM := Lib.hid hmm
      rw [hmm] at hq5 hq5'
      clear hnone
      simp only [hmm]
      clear hmm
      go_loopw [52] (fun x wr => ∃ i : Nat, i ≤ m ∧ x = .int .i64 i ∧ Below w5.heap.size w5 wr) (fun x _ => m - (intOf x).toNat)
      case atStart => exact ⟨0, by omega, rfl, Below.refl _ _⟩
      case round =>
        obtain ⟨i, hi, rfl, hb'⟩ := hrel
        by_cases hlt : i < m
        · obtain ⟨gl, lcap, hlv, hgl, hltl⟩ := HL5.out.form (by have := HM.out; omega)
          have hL5 : L5 = some ⟨gl, 0, none⟩ := (Value.slice.inj hlv).1
          subst hL5
          obtain ⟨r0, r1, r2⟩ := lvs_row ls' (j := i) (by have := HM.out; omega)
          have hown := HL5.out
          have o0 := (hb'.cell (p := ⟨gl, i * 3, none⟩) hltl).trans ((hown.cellAt (i * 3) (by have := HM.out; omega)).trans r0)
          have o1 := (hb'.cell (p := ⟨gl, i * 3 + 1, none⟩) hltl).trans ((hown.cellAt (i * 3 + 1) (by have := HM.out; omega)).trans r1)
          have o2 := (hb'.cell (p := ⟨gl, i * 3 + 2, none⟩) hltl).trans ((hown.cellAt (i * 3 + 2) (by have := HM.out; omega)).trans r2)
          have hh := HALL.out i (by have := HM.out; omega)
          rw [hh] at o1
          have hi0 : (0 : Int) ≤ (i : Int) := by omega
          have him : (i : Int) < (m : Int) := by omega
          have hgw : gl < wr.heap.size := Nat.lt_of_lt_of_le hltl hb'.size
          have hw1 : IntKind.i64.wrap (1000 * (i : Int)) = 1000 * (i : Int) := IntWalk.i64_in _ (by omega)
          have hne : (3000 + 1000 * (i : Int) != 3000 + 1000 * (i : Int)) = false := by simp
          generalize tOf ls' i = tt at *
          generalize (at_ ls' i).1 = nm at *
          clear hlv hown r0 r1 r2 hh
          go_wp2
          go_roundw
          case rel => exact ⟨i + 1, by omega, by go_num, hb'.alloc hb'.size _⟩
          case measure => simp [intOf]; omega
        · obtain rfl : m = i := by omega
          have HS5 := Lib.hid (HST.out.below (hb5.trans (hb'.mono hb5.size)))
          have hb6 : ∀ i, i < ls'.length → -1000000 ≤ (at_ ls' i).2.1 ∧ (at_ ls' i).2.1 ≤ 1000000 := fun i hi => by
            have h := HGD.out.lo i hi
            unfold hOf at h
            omega
          have HB6 := Lib.hid hb6
          have hwr : wrongB now' 1000 = false := by unfold wrongB; simp; omega
          have HWR := Lib.hid hwr
          clear hb6 hwr
          go_wp2_with (go_at_call 13; go_loud (refine (Down_ok HS5.out 1000 (by have := HM.out; omega) HWR.out (by omega) HB6.out).mono ?_; rintro e w6 ⟨he6, hS6, hu6⟩; rw [HNONE.out] at he6; subst he6; clear hS6))
          go_ret
          exact ⟨rfl, (hbel2.trans (hb'.mono (by have := hb.size; have := hb5.size; omega))).trans (hu6.below.mono HS.out.g0)⟩
end Go.Proofs.Ytjiofgfdfljgmaa
