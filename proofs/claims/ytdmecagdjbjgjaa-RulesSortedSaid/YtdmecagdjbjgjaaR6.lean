/- Package polygon: Check. -/
import Derived.Test.YtdmecagdjbjgjaaR5
namespace Go.Proofs.Ytdmecagdjbjgjaa
open Go.RowKit

def trP (p q r : Int × Int) : Int := trI p.1 p.2 q.1 q.2 r.1 r.2
def cmP (p q r s : Int × Int) : Bool := cmI p.1 p.2 q.1 q.2 r.1 r.2 s.1 s.2
def ptsE (F : Nat → Int × Int) : Nat → Int
  | 0 => 0
  | k + 1 => if ptsE F k = 0 then ptE (F k).1 (F k).2 else ptsE F k
def inB (F : Nat → Int × Int) (n i : Nat) : Nat → Bool
  | 0 => false
  | k + 1 => inB F n i k || (decide (i + 2 ≤ k) && (decide ((k + 1) % n ≠ i) && cmP (F i) (F ((i + 1) % n)) (F k) (F ((k + 1) % n))))
def outB (F : Nat → Int × Int) (n : Nat) : Nat → Bool
  | 0 => false
  | i + 1 => outB F n i || (decide (trP (F i) (F ((i + 1) % n)) (F ((i + 2) % n)) = 0) || inB F n i n)
def polyE (F : Nat → Int × Int) (n : Nat) : Int := if 16 < n then 2 else if n < 3 then 3 else if ptsE F n ≠ 0 then ptsE F n else if outB F n n = true then 3 else if sumC F n n ≤ 0 then 3 else 0

theorem ptsE_stop {F : Nat → Int × Int} {k : Nat} (h : ptsE F k ≠ 0) : ∀ m, k ≤ m → ptsE F m = ptsE F k
  | 0, hm => by rw [show k = 0 by omega]
  | m + 1, hm => by
    rcases Nat.lt_or_ge m k with h1 | h1
    · rw [show m + 1 = k by omega]
    · have ih := ptsE_stop h m h1
      simp only [ptsE]
      rw [ih, if_neg h]
theorem ptsE_ok {F : Nat → Int × Int} : ∀ m, ptsE F m = 0 → ∀ i, i < m → PtOk (F i)
  | 0, _, i, hi => absurd hi (by omega)
  | m + 1, h, i, hi => by
    simp only [ptsE] at h
    split at h
    · rcases Nat.lt_or_ge i m with h1 | h1
      · exact ptsE_ok m (by assumption) i h1
      · obtain rfl : i = m := by omega
        exact ptE_zero h
    · exact absurd h (by assumption)
theorem inB_mono {F : Nat → Int × Int} {n i k : Nat} (h : inB F n i k = true) : ∀ m, k ≤ m → inB F n i m = true
  | 0, hm => by rw [show k = 0 by omega] at h; exact h
  | m + 1, hm => by
    rcases Nat.lt_or_ge m k with h1 | h1
    · rw [show m + 1 = k by omega]; exact h
    · simp only [inB, inB_mono h m h1, Bool.true_or]
theorem outB_mono {F : Nat → Int × Int} {n k : Nat} (h : outB F n k = true) : ∀ m, k ≤ m → outB F n m = true
  | 0, hm => by rw [show k = 0 by omega] at h; exact h
  | m + 1, hm => by
    rcases Nat.lt_or_ge m k with h1 | h1
    · rw [show m + 1 = k by omega]; exact h
    · simp only [outB, outB_mono h m h1, Bool.true_or]
theorem inB_low {F : Nat → Int × Int} {n i : Nat} : ∀ k, k ≤ i + 2 → inB F n i k = false
  | 0, _ => rfl
  | k + 1, h => by simp only [inB, inB_low (F := F) (n := n) (i := i) k (by omega), decide_eq_false (show ¬ i + 2 ≤ k by omega), Bool.false_and, Bool.or_false]

theorem k2_below {w3 W W' : World} {b o q : Nat} {x y x' y' : Value} (hb : Below W.heap.size W W') (hl : b < w3.heap.size) (hs : Below w3.heap.size w3 W ∧ W.cell? ⟨b, o, none⟩ = some x ∧ W.cell? ⟨b, o + 1, none⟩ = some y ∧ W.cell? ⟨b, q, none⟩ = some x' ∧ W.cell? ⟨b, q + 1, none⟩ = some y') :
    Below w3.heap.size w3 W' ∧ W'.cell? ⟨b, o, none⟩ = some x ∧ W'.cell? ⟨b, o + 1, none⟩ = some y ∧ W'.cell? ⟨b, q, none⟩ = some x' ∧ W'.cell? ⟨b, q + 1, none⟩ = some y' := by
  have hz := hs.1.size
  exact ⟨hs.1.trans (hb.mono hz), (hb.cell (p := ⟨b, o, none⟩) (Nat.lt_of_lt_of_le hl hz)).trans hs.2.1, (hb.cell (p := ⟨b, o + 1, none⟩) (Nat.lt_of_lt_of_le hl hz)).trans hs.2.2.1, (hb.cell (p := ⟨b, q, none⟩) (Nat.lt_of_lt_of_le hl hz)).trans hs.2.2.2.1, (hb.cell (p := ⟨b, q + 1, none⟩) (Nat.lt_of_lt_of_le hl hz)).trans hs.2.2.2.2⟩
theorem k2_out {w w3 W : World} {b o q : Nat} {x y x' y' : Value} (hb : Below w.heap.size w w3) (hs : Below w3.heap.size w3 W ∧ W.cell? ⟨b, o, none⟩ = some x ∧ W.cell? ⟨b, o + 1, none⟩ = some y ∧ W.cell? ⟨b, q, none⟩ = some x' ∧ W.cell? ⟨b, q + 1, none⟩ = some y') : Below w.heap.size w W := hb.trans (hs.1.mono hb.size)

set_option maxRecDepth 100000 in
set_option maxHeartbeats 16000000 in
theorem polyCheck_any (A : Option Addr) (n c : Nat) (F : Nat → Int × Int) (w : World) (hS : Sl w w.heap.size 2 A n (ptRow F)) :
    Calls Try.prog 43 #[.slice A n c] w fun E w' => E = .returned (.int .i64 (polyE F n)) ∧ Below w.heap.size w w' := by
  have HP : Hid (polyE F n = if 16 < n then 2 else if n < 3 then 3 else if ptsE F n ≠ 0 then ptsE F n else if outB F n n = true then 3 else if sumC F n n ≤ 0 then 3 else 0) := Lib.hid rfl
  generalize polyE F n = r at *
  by_cases h16 : 16 < n
  · have hr : r = 2 := by rw [HP.out, if_pos h16]
    subst hr
    have d1 : decide ((16 : Int) < (n : Int)) = true := decide_eq_true (by omega)
    clear HP h16
    go_enter Try.func43, Try.ntmps43
    go_wp2
    go_ret
    exact ⟨rfl, Below.refl _ w⟩
  have d1 : decide ((16 : Int) < (n : Int)) = false := decide_eq_false (by omega)
  by_cases h3 : n < 3
  · have hr : r = 3 := by rw [HP.out, if_neg h16, if_pos h3]
    subst hr
    have d2 : decide ((n : Int) < 3) = true := decide_eq_true (by omega)
    clear HP h16 h3
    go_enter Try.func43, Try.ntmps43
    go_wp2
    go_ret
    exact ⟨rfl, Below.refl _ w⟩
  have d2 : decide ((n : Int) < 3) = false := decide_eq_false (by omega)
  have HR : Hid (r = if ptsE F n ≠ 0 then ptsE F n else if outB F n n = true then 3 else if sumC F n n ≤ 0 then 3 else 0) := Lib.hid (by rw [HP.out, if_neg h16, if_neg h3])
  have HN : Hid (3 ≤ n ∧ n ≤ 16) := Lib.hid ⟨by omega, by omega⟩
  have hn16 : n ≤ 16 := by omega
  have HS := Lib.hid hS
  have HPC := Lib.hid PCheck_any
  clear HP hS h16 h3
  go_enter Try.func43, Try.ntmps43
  go_wp2
  go_loopw [19] (fun x wr => ∃ k : Nat, k ≤ n ∧ x = .int .i64 k ∧ Hid (ptsE F k = 0) ∧ Below w.heap.size w wr) (fun x _ => n - (intOf x).toNat)
  case atStart => exact ⟨0, by omega, rfl, Lib.hid rfl, Below.refl _ w⟩
  case round =>
    obtain ⟨k, hk, rfl, HK0, hbw⟩ := hrel
    have HBW := Lib.hid hbw
    by_cases hlt : k < n
    · have hz := hbw.size
      obtain ⟨b, o, hA, hbl, hr⟩ := pt_cells HS.out (by omega)
      obtain ⟨r0, r1⟩ := hr k hlt
      have o0 := (hbw.cell (p := ⟨b, o + k * 2, none⟩) hbl).trans r0
      have o1 := (hbw.cell (p := ⟨b, o + k * 2 + 1, none⟩) hbl).trans r1
      have hl : b < wr.heap.size := by omega
      have hj0 : (0 : Int) ≤ (k : Int) := by omega
      have hjn : (k : Int) < (n : Int) := by omega
      have HL := Lib.hid hlt
      subst hA
      have HE : Hid (ptsE F (k + 1) = ptE (F k).1 (F k).2) := Lib.hid (by simp only [ptsE]; rw [if_pos HK0.out])
      clear hr r0 r1 hbw hbl hlt
      generalize (F k).1 = x at *
      generalize (F k).2 = y at *
      rcases ptE_cases x y with he | he
      · go_wp2_with (go_at_call 23; go_loud (refine (HPC.out x y _).mono ?_; rw [he]; rintro E w1 ⟨rfl, hb1⟩))
        go_roundw
        case rel => exact ⟨k + 1, by have := HL.out; omega, by go_num, Lib.hid (HE.out.trans he), HBW.out.trans (((Below.refl _ wr).alloc (Nat.le_refl _) _ |>.trans (hb1.mono (by simp))).mono hz)⟩
        case measure => have := HL.out; simp [intOf]; omega
      · go_wp2_with (go_at_call 23; go_loud (refine (HPC.out x y _).mono ?_; rw [he]; rintro E w1 ⟨rfl, hb1⟩))
        go_ret
        have h4 : ptsE F (k + 1) = 4 := HE.out.trans he
        have h5 : ptsE F n = 4 := (ptsE_stop (by rw [h4]; decide) n HL.out).trans h4
        exact ⟨by rw [HR.out, h5]; rfl, HBW.out.trans (((Below.refl _ wr).alloc (Nat.le_refl _) _ |>.trans (hb1.mono (by simp))).mono hz)⟩
    · obtain rfl : n = k := by omega
      have HF := Lib.hid (ptsE_ok n HK0.out)
      have HR2 : Hid (r = if outB F n n = true then 3 else if sumC F n n ≤ 0 then 3 else 0) := Lib.hid (by rw [HR.out, if_neg (fun h => h HK0.out)])
      clear hbw HR HK0 HPC hk
      go_wp2
      go_loopw [31] (fun x wr => ∃ i : Nat, i ≤ n ∧ x = .int .i64 i ∧ Hid (outB F n i = false) ∧ Below w.heap.size w wr) (fun x _ => n - (intOf x).toNat)
      case atStart => exact ⟨0, by omega, rfl, Lib.hid rfl, HBW.out⟩
      clear HBW
      case round =>
        obtain ⟨i, hi, rfl, HO, hbw⟩ := hrel
        have HBW := Lib.hid hbw
        by_cases hlt : i < n
        · have hz := hbw.size
          obtain ⟨b, o, hA, hbl, hr⟩ := pt_cells HS.out (by omega)
          subst hA
          obtain ⟨j, hj⟩ : ∃ j, (i + 2) % n = j := ⟨_, rfl⟩
          have hjn : j < n := by rw [← hj]; exact Nat.mod_lt _ (by omega)
          obtain ⟨r0, r1⟩ := hr i hlt
          obtain ⟨r2, r3⟩ := hr j hjn
          have HCELL := Lib.hid hr
          have HBL := Lib.hid hbl
          have o0 := (hbw.cell (p := ⟨b, o + i * 2, none⟩) hbl).trans r0
          have o1 := (hbw.cell (p := ⟨b, o + i * 2 + 1, none⟩) hbl).trans r1
          have o2 := (hbw.cell (p := ⟨b, o + j * 2, none⟩) hbl).trans r2
          have o3 := (hbw.cell (p := ⟨b, o + j * 2 + 1, none⟩) hbl).trans r3
          have hs0 : Below wr.heap.size wr wr.drew ∧ wr.drew.cell? ⟨b, o + i * 2, none⟩ = some (.int .i64 (F i).1) ∧ wr.drew.cell? ⟨b, o + i * 2 + 1, none⟩ = some (.int .i64 (F i).2) ∧ wr.drew.cell? ⟨b, o + j * 2, none⟩ = some (.int .i64 (F j).1) ∧ wr.drew.cell? ⟨b, o + j * 2 + 1, none⟩ = some (.int .i64 (F j).2) := ⟨(Below.refl _ _).drew, o0, o1, o2, o3⟩
          have HNX := Lib.hid (fun W (hW : Below w.heap.size w W) (x : Nat) (hx : x < n) => next_any _ n c F x W ((HS.out.below hW).more hW.size) hx HN.out.2)
          have hP := HF.out i hlt
          have hQ := HF.out ((i + 1) % n) (Nat.mod_lt _ (by omega))
          have hJ := HF.out j hjn
          have HTU := Lib.hid (fun W => Turn_any (F i).1 (F i).2 (F ((i + 1) % n)).1 (F ((i + 1) % n)).2 (F j).1 (F j).2 W hP.1 hP.2 hQ.1 hQ.2 hJ.1 hJ.2)
          have HOU : Hid (outB F n (i + 1) = (outB F n i || (decide (trP (F i) (F ((i + 1) % n)) (F j) = 0) || inB F n i n))) := Lib.hid (by rw [← hj]; rfl)
          have HTR : Hid (trP (F i) (F ((i + 1) % n)) (F j) = trI (F i).1 (F i).2 (F ((i + 1) % n)).1 (F ((i + 1) % n)).2 (F j).1 (F j).2) := Lib.hid rfl
          have e1 : IntKind.i64.wrap ((i : Int) + 2) = (i : Int) + 2 := IntWalk.i64_in _ (by omega)
          have e2 : ((i : Int) + 2).tmod (n : Int) = (j : Int) := by
            rw [Int.tmod_eq_emod_of_nonneg (by omega), ← hj, Int.natCast_emod, Int.natCast_add]
            rfl
          have e3 : ((n : Int) == 0) = false := beq_eq_false_iff_ne.2 (by omega)
          have e4 : ((n : Int) == -1) = false := beq_eq_false_iff_ne.2 (by omega)
          have e5 : ¬ n = 0 := by omega
          have e6 : ¬ (n : Int) = -1 := by omega
          have e7 : ¬ (n : Int) = 0 := by omega
          have e8 : (n == 0) = false := beq_eq_false_iff_ne.2 e5
          have hl : b < wr.heap.size := by omega
          have hi0 : (0 : Int) ≤ (i : Int) := by omega
          have hin : (i : Int) < (n : Int) := by omega
          have hj0 : (0 : Int) ≤ (j : Int) := by omega
          have hjn' : (j : Int) < (n : Int) := by omega
          have HI := Lib.hid hlt
          clear hr r0 r1 r2 r3 o0 o1 o2 o3 hP hQ hJ hbl hbw
          generalize trP (F i) (F ((i + 1) % n)) (F j) = t at *
          rw [← HTR.out] at HTU
          clear HTR
          by_cases ht : t = 0
          · subst ht
            go_wp2
            go_region_held3 (fun W => Below wr.heap.size wr W ∧ W.cell? ⟨b, o + i * 2, none⟩ = some (.int .i64 (F i).1) ∧ W.cell? ⟨b, o + i * 2 + 1, none⟩ = some (.int .i64 (F i).2) ∧ W.cell? ⟨b, o + j * 2, none⟩ = some (.int .i64 (F j).1) ∧ W.cell? ⟨b, o + j * 2 + 1, none⟩ = some (.int .i64 (F j).2)) (first | assumption | exact k2_below (by assumption) hl (by assumption)) (first
              | (go_at_call 59; go_loud (refine (HNX.out _ (k2_out HBW.out (by assumption)) i HI.out).mono ?_; rintro E w1 ⟨rfl, hb1⟩))
              | (go_at_call 58; go_loud (refine (HTU.out _).mono ?_; rintro E w2 ⟨rfl, hb2⟩)))
            all_goals
              go_wp2
              go_ret
              have ho : outB F n n = true := outB_mono (k := i + 1) (by rw [HOU.out]; simp) n HI.out
              exact ⟨by rw [HR2.out, if_pos ho]; rfl, k2_out HBW.out (by assumption)⟩
          · have htd : decide (t = 0) = false := decide_eq_false ht
            have htb : (t == 0) = false := beq_eq_false_iff_ne.2 ht
            have HOU2 : Hid (outB F n (i + 1) = inB F n i n) := Lib.hid (by rw [HOU.out, HO.out, htd]; rfl)
            clear ht HOU
            go_wp2
            go_region_held3 (fun W => Below wr.heap.size wr W ∧ W.cell? ⟨b, o + i * 2, none⟩ = some (.int .i64 (F i).1) ∧ W.cell? ⟨b, o + i * 2 + 1, none⟩ = some (.int .i64 (F i).2) ∧ W.cell? ⟨b, o + j * 2, none⟩ = some (.int .i64 (F j).1) ∧ W.cell? ⟨b, o + j * 2 + 1, none⟩ = some (.int .i64 (F j).2)) (first | assumption | exact k2_below (by assumption) hl (by assumption)) (first
              | (go_at_call 59; go_loud (refine (HNX.out _ (k2_out HBW.out (by assumption)) i HI.out).mono ?_; rintro E w1 ⟨rfl, hb1⟩))
              | (go_at_call 58; go_loud (refine (HTU.out _).mono ?_; rintro E w2 ⟨rfl, hb2⟩)))
            have HB5 := Lib.hid (k2_out HBW.out (by assumption))
            go_wp2
            go_loopw [8] (fun x wr => ∃ k : Nat, i + 2 ≤ k ∧ k ≤ n + 1 ∧ x = .int .i64 k ∧ Hid (inB F n i k = false) ∧ Below w.heap.size w wr) (fun x _ => n + 1 - (intOf x).toNat)
            case atStart => exact ⟨i + 2, by omega, by omega, by first | rfl | go_num, Lib.hid (inB_low _ (by omega)), HB5.out⟩
            case round =>
              obtain ⟨k, hk1, hk2, rfl, HIN, hbq⟩ := hrel
              have HBQ := Lib.hid hbq
              by_cases hkn : k < n
              · have hzq := hbq.size
                obtain ⟨r0, r1⟩ := HCELL.out i HI.out
                obtain ⟨r2, r3⟩ := HCELL.out k hkn
                have o0 := (hbq.cell (p := ⟨b, o + i * 2, none⟩) HBL.out).trans r0
                have o1 := (hbq.cell (p := ⟨b, o + i * 2 + 1, none⟩) HBL.out).trans r1
                have o2 := (hbq.cell (p := ⟨b, o + k * 2, none⟩) HBL.out).trans r2
                have o3 := (hbq.cell (p := ⟨b, o + k * 2 + 1, none⟩) HBL.out).trans r3
                have hs1 : Below wr.heap.size wr wr.drew ∧ wr.drew.cell? ⟨b, o + i * 2, none⟩ = some (.int .i64 (F i).1) ∧ wr.drew.cell? ⟨b, o + i * 2 + 1, none⟩ = some (.int .i64 (F i).2) ∧ wr.drew.cell? ⟨b, o + k * 2, none⟩ = some (.int .i64 (F k).1) ∧ wr.drew.cell? ⟨b, o + k * 2 + 1, none⟩ = some (.int .i64 (F k).2) := ⟨(Below.refl _ _).drew, o0, o1, o2, o3⟩
                obtain ⟨q, hq⟩ : ∃ q, (k + 1) % n = q := ⟨_, rfl⟩
                have hqn : q < n := by rw [← hq]; exact Nat.mod_lt _ (by omega)
                have m1 : IntKind.i64.wrap ((k : Int) + 1) = (k : Int) + 1 := IntWalk.i64_in _ (by omega)
                have m2 : ((k : Int) + 1).tmod (n : Int) = (q : Int) := by
                  rw [Int.tmod_eq_emod_of_nonneg (by omega), ← hq, Int.natCast_emod, Int.natCast_add]
                  rfl
                have hk0 : (0 : Int) ≤ (k : Int) := by omega
                have hkn' : (k : Int) < (n : Int) := by omega
                have hlq : b < wr.heap.size := by have := HBL.out; omega
                have HKN := Lib.hid hkn
                have HK1 := Lib.hid hk1
                have HINS : Hid (inB F n i (k + 1) = (decide (q ≠ i) && cmP (F i) (F ((i + 1) % n)) (F k) (F q))) := Lib.hid (by simp only [inB]; rw [HIN.out, hq, decide_eq_true hk1]; simp)
                clear hs0 r0 r1 r2 r3 o0 o1 o2 o3 hbq
                by_cases hg : q = i
                · rw [hg] at m2
                  have HIN2 : inB F n i (k + 1) = false := by rw [HINS.out, hg]; simp
                  have HIN3 := Lib.hid HIN2
                  clear HIN2 HINS
                  go_wp2
                  refine wp_region_held_drew (S := (fun W => Below wr.heap.size wr W)) (by kernel_rfl) ((Below.refl _ _).drew) (fun hHeld => ?_)
                  refine wpAnyH_take (i := 0) (oi := ⟨some 57, _, _, _, _, _⟩) (v := ?v0) rfl (by kernel_rfl) (by kernel_rfl) (by kernel_rfl) (fun _ _ _ h => h) (Or.inl ⟨by rfl, ?y0⟩) hHeld ?r0
                  case y0 => (intro W hSw; (try dsimp only at hSw); go_simp; try with_reducible rfl)
                  try simp only [Act.put, List.setIfInBounds_toArray, List.set_cons_zero, List.set_cons_succ]
                  refine wpAnyH_take (i := 1) (oi := ⟨some 58, _, _, _, _, _⟩) (v := ?v1) rfl (by kernel_rfl) (by kernel_rfl) (by kernel_rfl) (fun _ _ _ h => h) (Or.inl ⟨by rfl, ?y1⟩) hHeld ?r1
                  case y1 => (intro W hSw; (try dsimp only at hSw); go_simp; try with_reducible rfl)
                  try simp only [Act.put, List.setIfInBounds_toArray, List.set_cons_zero, List.set_cons_succ]
                  refine wpAnyH_take (i := 2) (oi := ⟨some 59, _, _, _, _, _⟩) (v := ?v2) rfl (by kernel_rfl) (by kernel_rfl) (by kernel_rfl) (fun _ _ _ h => h) (Or.inl ⟨by rfl, ?y2⟩) hHeld ?r2
                  case y2 => (intro W hSw; (try dsimp only at hSw); go_simp; try with_reducible rfl)
                  try simp only [Act.put, List.setIfInBounds_toArray, List.set_cons_zero, List.set_cons_succ]
                  refine wpAnyH_take (i := 3) (oi := ⟨some 60, _, _, _, _, _⟩) (v := ?v3) rfl (by kernel_rfl) (by kernel_rfl) (by kernel_rfl) (fun _ _ _ h => h) (Or.inl ⟨by rfl, ?y3⟩) hHeld ?r3
                  case y3 => (intro W hSw; (try dsimp only at hSw); go_simp; try with_reducible rfl)
                  try simp only [Act.put, List.setIfInBounds_toArray, List.set_cons_zero, List.set_cons_succ]
                  refine wpAnyH_take (i := 4) (oi := ⟨some 61, _, _, _, _, _⟩) (v := ?v4) rfl (by kernel_rfl) (by kernel_rfl) (by kernel_rfl) (fun _ _ _ h => h) (Or.inl ⟨by rfl, ?y4⟩) hHeld ?r4
                  case y4 => (intro W hSw; (try dsimp only at hSw); go_simp; try with_reducible rfl)
                  try simp only [Act.put, List.setIfInBounds_toArray, List.set_cons_zero, List.set_cons_succ]
                  refine wpAnyH_take (i := 5) (oi := ⟨some 62, _, _, _, _, _⟩) (v := ?v5) rfl (by kernel_rfl) (by kernel_rfl) (by kernel_rfl) (fun _ _ _ h => h) (Or.inl ⟨by rfl, ?y5⟩) hHeld ?r5
                  case y5 => (intro W hSw; (try dsimp only at hSw); go_simp; try with_reducible rfl)
                  try simp only [Act.put, List.setIfInBounds_toArray, List.set_cons_zero, List.set_cons_succ]
                  refine wpAnyH_take (i := 6) (oi := ⟨some 63, _, _, _, _, _⟩) (v := ?v6) rfl (by kernel_rfl) (by kernel_rfl) (by kernel_rfl) (fun _ _ _ h => h) (Or.inl ⟨by rfl, ?y6⟩) hHeld ?r6
                  case y6 => (intro W hSw; (try dsimp only at hSw); go_simp; try with_reducible rfl)
                  try simp only [Act.put, List.setIfInBounds_toArray, List.set_cons_zero, List.set_cons_succ]
                  refine wpAnyH_take (i := 7) (oi := ⟨some 64, _, _, _, _, _⟩) (v := undef) rfl (by kernel_rfl) (by kernel_rfl) (by kernel_rfl) (fun _ _ _ h => h) (Or.inr ⟨by rfl, rfl⟩) hHeld ?_
                  try simp only [Act.put, List.setIfInBounds_toArray, List.set_cons_zero, List.set_cons_succ]
                  refine wpAnyH_take (i := 8) (oi := ⟨some 65, _, _, _, _, _⟩) (v := undef) rfl (by kernel_rfl) (by kernel_rfl) (by kernel_rfl) (fun _ _ _ h => h) (Or.inr ⟨by rfl, rfl⟩) hHeld ?_
                  try simp only [Act.put, List.setIfInBounds_toArray, List.set_cons_zero, List.set_cons_succ]
                  refine wpAnyH_take (i := 9) (oi := ⟨some 66, _, _, _, _, _⟩) (v := undef) rfl (by kernel_rfl) (by kernel_rfl) (by kernel_rfl) (fun _ _ _ h => h) (Or.inr ⟨by rfl, rfl⟩) hHeld ?_
                  try simp only [Act.put, List.setIfInBounds_toArray, List.set_cons_zero, List.set_cons_succ]
                  refine wpAnyH_take (i := 10) (oi := ⟨some 67, _, _, _, _, _⟩) (v := undef) rfl (by kernel_rfl) (by kernel_rfl) (by kernel_rfl) (fun _ _ _ h => h) (Or.inr ⟨by rfl, rfl⟩) hHeld ?_
                  try simp only [Act.put, List.setIfInBounds_toArray, List.set_cons_zero, List.set_cons_succ]
                  refine wpAnyH_take (i := 11) (oi := ⟨some 68, _, _, _, _, _⟩) (v := undef) rfl (by kernel_rfl) (by kernel_rfl) (by kernel_rfl) (fun _ _ _ h => h) (Or.inr ⟨by rfl, rfl⟩) hHeld ?_
                  try simp only [Act.put, List.setIfInBounds_toArray, List.set_cons_zero, List.set_cons_succ]
                  refine wpAnyH_take (i := 12) (oi := ⟨some 69, _, _, _, _, _⟩) (v := undef) rfl (by kernel_rfl) (by kernel_rfl) (by kernel_rfl) (fun _ _ _ h => h) (Or.inr ⟨by rfl, rfl⟩) hHeld ?_
                  try simp only [Act.put, List.setIfInBounds_toArray, List.set_cons_zero, List.set_cons_succ]
                  refine wpAnyH_take (i := 13) (oi := ⟨some 70, _, _, _, _, _⟩) (v := undef) rfl (by kernel_rfl) (by kernel_rfl) (by kernel_rfl) (fun _ _ _ h => h) (Or.inr ⟨by rfl, rfl⟩) hHeld ?_
                  try simp only [Act.put, List.setIfInBounds_toArray, List.set_cons_zero, List.set_cons_succ]
                  refine wpAnyH_take (i := 14) (oi := ⟨some 71, _, _, _, _, _⟩) (v := undef) rfl (by kernel_rfl) (by kernel_rfl) (by kernel_rfl) (fun _ _ _ h => h) (Or.inr ⟨by rfl, rfl⟩) hHeld ?_
                  try simp only [Act.put, List.setIfInBounds_toArray, List.set_cons_zero, List.set_cons_succ]
                  refine wpAnyH_take (i := 15) (oi := ⟨some 72, _, _, _, _, _⟩) (v := undef) rfl (by kernel_rfl) (by kernel_rfl) (by kernel_rfl) (fun _ _ _ h => h) (Or.inr ⟨by rfl, rfl⟩) hHeld ?_
                  try simp only [Act.put, List.setIfInBounds_toArray, List.set_cons_zero, List.set_cons_succ]
                  refine wpAnyH_take (i := 16) (oi := ⟨some 73, _, _, _, _, _⟩) (v := undef) rfl (by kernel_rfl) (by kernel_rfl) (by kernel_rfl) (fun _ _ _ h => h) (Or.inr ⟨by rfl, rfl⟩) hHeld ?_
                  try simp only [Act.put, List.setIfInBounds_toArray, List.set_cons_zero, List.set_cons_succ]
                  refine wpAnyH_take (i := 17) (oi := ⟨some 74, _, _, _, _, _⟩) (v := undef) rfl (by kernel_rfl) (by kernel_rfl) (by kernel_rfl) (fun _ _ _ h => h) (Or.inr ⟨by rfl, rfl⟩) hHeld ?_
                  try simp only [Act.put, List.setIfInBounds_toArray, List.set_cons_zero, List.set_cons_succ]
                  refine wpAnyH_take (i := 18) (oi := ⟨some 75, _, _, _, _, _⟩) (v := undef) rfl (by kernel_rfl) (by kernel_rfl) (by kernel_rfl) (fun _ _ _ h => h) (Or.inr ⟨by rfl, rfl⟩) hHeld ?_
                  try simp only [Act.put, List.setIfInBounds_toArray, List.set_cons_zero, List.set_cons_succ]
                  refine wpAnyH_take (i := 19) (oi := ⟨some 76, _, _, _, _, _⟩) (v := undef) rfl (by kernel_rfl) (by kernel_rfl) (by kernel_rfl) (fun _ _ _ h => h) (Or.inr ⟨by rfl, rfl⟩) hHeld ?_
                  try simp only [Act.put, List.setIfInBounds_toArray, List.set_cons_zero, List.set_cons_succ]
                  refine wpAnyH_take (i := 20) (oi := ⟨some 77, _, _, _, _, _⟩) (v := undef) rfl (by kernel_rfl) (by kernel_rfl) (by kernel_rfl) (fun _ _ _ h => h) (Or.inr ⟨by rfl, rfl⟩) hHeld ?_
                  try simp only [Act.put, List.setIfInBounds_toArray, List.set_cons_zero, List.set_cons_succ]
                  refine wpAnyH_take (i := 21) (oi := ⟨some 78, _, _, _, _, _⟩) (v := undef) rfl (by kernel_rfl) (by kernel_rfl) (by kernel_rfl) (fun _ _ _ h => h) (Or.inr ⟨by rfl, rfl⟩) hHeld ?_
                  try simp only [Act.put, List.setIfInBounds_toArray, List.set_cons_zero, List.set_cons_succ]
                  refine wpAnyH_take (i := 22) (oi := ⟨some 79, _, _, _, _, _⟩) (v := ?v22) rfl (by kernel_rfl) (by kernel_rfl) (by kernel_rfl) (fun _ _ _ h => h) (Or.inl ⟨by rfl, ?y22⟩) hHeld ?r22
                  case y22 => (intro W hSw; (try dsimp only at hSw); go_simp; try with_reducible rfl)
                  try simp only [Act.put, List.setIfInBounds_toArray, List.set_cons_zero, List.set_cons_succ]
                  refine wpAnyH_done (by kernel_rfl) ?_ _
                  go_wp2
                  go_roundw
                  case rel => exact ⟨k + 1, by omega, by omega, by go_num, HIN3, HBQ.out.trans (Below.mono hHeld HBQ.out.size)⟩
                  case measure => have := HKN.out; simp [intOf]; omega
                · have hqb : (q == i) = false := beq_eq_false_iff_ne.2 hg
                  have hqi : ¬ (q : Int) = (i : Int) := by omega
                  have hqj : ((q : Int) == (i : Int)) = false := beq_eq_false_iff_ne.2 hqi
                  have hq1 : (q != i) = true := bne_iff_ne.2 hg
                  have hq2 : ((q : Int) != (i : Int)) = true := bne_iff_ne.2 hqi
                  have hq3 : decide (q = i) = false := decide_eq_false hg
                  have hq4 : decide ((q : Int) = (i : Int)) = false := decide_eq_false hqi
                  have hq5 : (!(q == i)) = true := by rw [hqb]; rfl
                  have hq6 : (!((q : Int) == (i : Int))) = true := by rw [hqj]; rfl
                  have hP := HF.out i HI.out
                  have hQ := HF.out ((i + 1) % n) (Nat.mod_lt _ (by omega))
                  have hK := HF.out k hkn
                  have hR := HF.out q hqn
                  have HCM := Lib.hid (fun W => Common_any (F i).1 (F i).2 (F ((i + 1) % n)).1 (F ((i + 1) % n)).2 (F k).1 (F k).2 (F q).1 (F q).2 W hP.1 hP.2 hQ.1 hQ.2 hK.1 hK.2 hR.1 hR.2)
                  have HIN2 : Hid (inB F n i (k + 1) = cmI (F i).1 (F i).2 (F ((i + 1) % n)).1 (F ((i + 1) % n)).2 (F k).1 (F k).2 (F q).1 (F q).2) := Lib.hid (by rw [HINS.out, decide_eq_true hg]; rfl)
                  generalize cmI (F i).1 (F i).2 (F ((i + 1) % n)).1 (F ((i + 1) % n)).2 (F k).1 (F k).2 (F q).1 (F q).2 = z at *
                  clear hP hQ hK hR HINS
                  go_wp2
                  refine wp_region_held_drew (S := (fun W => Below wr.heap.size wr W ∧ W.cell? ⟨b, o + i * 2, none⟩ = some (.int .i64 (F i).1) ∧ W.cell? ⟨b, o + i * 2 + 1, none⟩ = some (.int .i64 (F i).2) ∧ W.cell? ⟨b, o + k * 2, none⟩ = some (.int .i64 (F k).1) ∧ W.cell? ⟨b, o + k * 2 + 1, none⟩ = some (.int .i64 (F k).2))) (by kernel_rfl) hs1 (fun hHeld => ?_)
                  refine wpAnyH_take (i := 0) (oi := ⟨some 57, _, _, _, _, _⟩) (v := ?gv0) rfl (by kernel_rfl) (by kernel_rfl) (by kernel_rfl) (fun _ _ _ h => h) (Or.inl ⟨by rfl, ?gy0⟩) hHeld ?gr0
                  case gy0 => (intro W hSw; (try dsimp only at hSw); go_simp; try with_reducible rfl)
                  try simp only [Act.put, List.setIfInBounds_toArray, List.set_cons_zero, List.set_cons_succ]
                  refine wpAnyH_take (i := 1) (oi := ⟨some 58, _, _, _, _, _⟩) (v := ?gv1) rfl (by kernel_rfl) (by kernel_rfl) (by kernel_rfl) (fun _ _ _ h => h) (Or.inl ⟨by rfl, ?gy1⟩) hHeld ?gr1
                  case gy1 => (intro W hSw; (try dsimp only at hSw); go_simp; try with_reducible rfl)
                  try simp only [Act.put, List.setIfInBounds_toArray, List.set_cons_zero, List.set_cons_succ]
                  refine wpAnyH_take (i := 2) (oi := ⟨some 59, _, _, _, _, _⟩) (v := ?gv2) rfl (by kernel_rfl) (by kernel_rfl) (by kernel_rfl) (fun _ _ _ h => h) (Or.inl ⟨by rfl, ?gy2⟩) hHeld ?gr2
                  case gy2 => (intro W hSw; (try dsimp only at hSw); go_simp; try with_reducible rfl)
                  try simp only [Act.put, List.setIfInBounds_toArray, List.set_cons_zero, List.set_cons_succ]
                  refine wpAnyH_take (i := 3) (oi := ⟨some 60, _, _, _, _, _⟩) (v := ?gv3) rfl (by kernel_rfl) (by kernel_rfl) (by kernel_rfl) (fun _ _ _ h => h) (Or.inl ⟨by rfl, ?gy3⟩) hHeld ?gr3
                  case gy3 => (intro W hSw; (try dsimp only at hSw); go_simp; try with_reducible rfl)
                  try simp only [Act.put, List.setIfInBounds_toArray, List.set_cons_zero, List.set_cons_succ]
                  refine wpAnyH_take (i := 4) (oi := ⟨some 61, _, _, _, _, _⟩) (v := ?gv4) rfl (by kernel_rfl) (by kernel_rfl) (by kernel_rfl) (fun _ _ _ h => h) (Or.inl ⟨by rfl, ?gy4⟩) hHeld ?gr4
                  case gy4 => (intro W hSw; (try dsimp only at hSw); go_simp; try with_reducible rfl)
                  try simp only [Act.put, List.setIfInBounds_toArray, List.set_cons_zero, List.set_cons_succ]
                  refine wpAnyH_take (i := 5) (oi := ⟨some 62, _, _, _, _, _⟩) (v := ?gv5) rfl (by kernel_rfl) (by kernel_rfl) (by kernel_rfl) (fun _ _ _ h => h) (Or.inl ⟨by rfl, ?gy5⟩) hHeld ?gr5
                  case gy5 => (intro W hSw; (try dsimp only at hSw); go_simp; try with_reducible rfl)
                  try simp only [Act.put, List.setIfInBounds_toArray, List.set_cons_zero, List.set_cons_succ]
                  refine wpAnyH_take (i := 6) (oi := ⟨some 63, _, _, _, _, _⟩) (v := ?gv6) rfl (by kernel_rfl) (by kernel_rfl) (by kernel_rfl) (fun _ _ _ h => h) (Or.inl ⟨by rfl, ?gy6⟩) hHeld ?gr6
                  case gy6 => (intro W hSw; (try dsimp only at hSw); go_simp; try with_reducible rfl)
                  try simp only [Act.put, List.setIfInBounds_toArray, List.set_cons_zero, List.set_cons_succ]
                  refine wpAnyH_take (i := 7) (oi := ⟨some 64, _, _, _, _, _⟩) (v := ?gv7) rfl (by kernel_rfl) (by kernel_rfl) (by kernel_rfl) (fun _ _ _ h => h) (Or.inl ⟨by rfl, ?gy7⟩) hHeld ?gr7
                  case gy7 => (intro W hSw; (try dsimp only at hSw); go_simp; try with_reducible rfl)
                  try simp only [Act.put, List.setIfInBounds_toArray, List.set_cons_zero, List.set_cons_succ]
                  refine wpAnyH_take (i := 8) (oi := ⟨some 65, _, _, _, _, _⟩) (v := ?gv8) rfl (by kernel_rfl) (by kernel_rfl) (by kernel_rfl) (fun _ _ _ h => h) (Or.inl ⟨by rfl, ?gy8⟩) hHeld ?gr8
                  case gy8 => (intro W hSw; (try dsimp only at hSw); go_simp; try with_reducible rfl)
                  try simp only [Act.put, List.setIfInBounds_toArray, List.set_cons_zero, List.set_cons_succ]
                  refine wpAnyH_take (i := 9) (oi := ⟨some 66, _, _, _, _, _⟩) (v := ?gv9) rfl (by kernel_rfl) (by kernel_rfl) (by kernel_rfl) (fun _ _ _ h => h) (Or.inl ⟨by rfl, ?gy9⟩) hHeld ?gr9
                  case gy9 => (intro W hSw; (try dsimp only at hSw); go_simp; try with_reducible rfl)
                  try simp only [Act.put, List.setIfInBounds_toArray, List.set_cons_zero, List.set_cons_succ]
                  refine wpAnyH_take (i := 10) (oi := ⟨some 67, _, _, _, _, _⟩) (v := ?gv10) rfl (by kernel_rfl) (by kernel_rfl) (by kernel_rfl) (fun _ _ _ h => h) (Or.inl ⟨by rfl, ?gy10⟩) hHeld ?gr10
                  case gy10 => (intro W hSw; (try dsimp only at hSw); go_simp; try with_reducible rfl)
                  try simp only [Act.put, List.setIfInBounds_toArray, List.set_cons_zero, List.set_cons_succ]
                  refine wpAnyH_take (i := 11) (oi := ⟨some 68, _, _, _, _, _⟩) (v := ?gv11) rfl (by kernel_rfl) (by kernel_rfl) (by kernel_rfl) (fun _ _ _ h => h) (Or.inl ⟨by rfl, ?gy11⟩) hHeld ?gr11
                  case gy11 => (intro W hSw; (try dsimp only at hSw); go_simp; try with_reducible rfl)
                  try simp only [Act.put, List.setIfInBounds_toArray, List.set_cons_zero, List.set_cons_succ]
                  refine wpAnyH_take (i := 12) (oi := ⟨some 69, _, _, _, _, _⟩) (v := ?gv12) rfl (by kernel_rfl) (by kernel_rfl) (by kernel_rfl) (fun _ _ _ h => h) (Or.inl ⟨by rfl, ?gy12⟩) hHeld ?gr12
                  case gy12 => (intro W hSw; (try dsimp only at hSw); go_simp; try with_reducible rfl)
                  try simp only [Act.put, List.setIfInBounds_toArray, List.set_cons_zero, List.set_cons_succ]
                  refine wpAnyH_take (i := 14) (oi := ⟨some 71, _, _, _, _, _⟩) (v := ?gv14) rfl (by kernel_rfl) (by kernel_rfl) (by kernel_rfl) (fun _ _ _ h => h) (Or.inl ⟨by rfl, ?gy14⟩) hHeld ?gr14
                  case gy14 => (intro W hSw; (try dsimp only at hSw); go_simp; try with_reducible rfl)
                  try simp only [Act.put, List.setIfInBounds_toArray, List.set_cons_zero, List.set_cons_succ]
                  refine wpAnyH_take (i := 15) (oi := ⟨some 72, _, _, _, _, _⟩) (v := ?gv15) rfl (by kernel_rfl) (by kernel_rfl) (by kernel_rfl) (fun _ _ _ h => h) (Or.inl ⟨by rfl, ?gy15⟩) hHeld ?gr15
                  case gy15 => (intro W hSw; (try dsimp only at hSw); go_simp; try with_reducible rfl)
                  try simp only [Act.put, List.setIfInBounds_toArray, List.set_cons_zero, List.set_cons_succ]
                  refine wpAnyH_take (i := 16) (oi := ⟨some 73, _, _, _, _, _⟩) (v := ?gv16) rfl (by kernel_rfl) (by kernel_rfl) (by kernel_rfl) (fun _ _ _ h => h) (Or.inl ⟨by rfl, ?gy16⟩) hHeld ?gr16
                  case gy16 => (intro W hSw; (try dsimp only at hSw); go_simp; try with_reducible rfl)
                  try simp only [Act.put, List.setIfInBounds_toArray, List.set_cons_zero, List.set_cons_succ]
                  refine wpAnyH_take (i := 17) (oi := ⟨some 74, _, _, _, _, _⟩) (v := ?gv17) rfl (by kernel_rfl) (by kernel_rfl) (by kernel_rfl) (fun _ _ _ h => h) (Or.inl ⟨by rfl, ?gy17⟩) hHeld ?gr17
                  case gy17 => (intro W hSw; (try dsimp only at hSw); go_simp; try with_reducible rfl)
                  try simp only [Act.put, List.setIfInBounds_toArray, List.set_cons_zero, List.set_cons_succ]
                  refine wpAnyH_take (i := 18) (oi := ⟨some 75, _, _, _, _, _⟩) (v := ?gv18) rfl (by kernel_rfl) (by kernel_rfl) (by kernel_rfl) (fun _ _ _ h => h) (Or.inl ⟨by rfl, ?gy18⟩) hHeld ?gr18
                  case gy18 => (intro W hSw; (try dsimp only at hSw); go_simp; try with_reducible rfl)
                  try simp only [Act.put, List.setIfInBounds_toArray, List.set_cons_zero, List.set_cons_succ]
                  refine wpAnyH_take (i := 19) (oi := ⟨some 76, _, _, _, _, _⟩) (v := ?gv19) rfl (by kernel_rfl) (by kernel_rfl) (by kernel_rfl) (fun _ _ _ h => h) (Or.inl ⟨by rfl, ?gy19⟩) hHeld ?gr19
                  case gy19 => (intro W hSw; (try dsimp only at hSw); go_simp; try with_reducible rfl)
                  try simp only [Act.put, List.setIfInBounds_toArray, List.set_cons_zero, List.set_cons_succ]
                  refine wpAnyH_ready (rs := [13]) (by kernel_rfl) (by simp) ?_
                  refine AllReadyH.cons (o := ⟨some 70, _, _, _, _, _⟩) rfl (fun K hK => ?_) AllReadyH.nil
                  go_simp
                  (go_at_call 59; go_loud (refine (HNX.out _ (k2_out HBQ.out hHeld) _ (by first | exact HI.out | exact HKN.out)).mono ?_; rintro E w1 ⟨rfl, hb1⟩))
                  refine hK.out _ _ (k2_below (by assumption) hlq hHeld) (fun hHeld => ?_)
                  clear hK K
                  try simp only [Act.put, List.setIfInBounds_toArray, List.set_cons_zero, List.set_cons_succ]
                  refine wpAnyH_ready (rs := [20]) (by kernel_rfl) (by simp) ?_
                  refine AllReadyH.cons (o := ⟨some 77, _, _, _, _, _⟩) rfl (fun K hK => ?_) AllReadyH.nil
                  go_simp
                  (go_at_call 59; go_loud (refine (HNX.out _ (k2_out HBQ.out hHeld) _ (by first | exact HI.out | exact HKN.out)).mono ?_; rintro E w1 ⟨rfl, hb1⟩))
                  refine hK.out _ _ (k2_below (by assumption) hlq hHeld) (fun hHeld => ?_)
                  clear hK K
                  try simp only [Act.put, List.setIfInBounds_toArray, List.set_cons_zero, List.set_cons_succ]
                  refine wpAnyH_ready (rs := [21]) (by kernel_rfl) (by simp) ?_
                  refine AllReadyH.cons (o := ⟨some 78, _, _, _, _, _⟩) rfl (fun K hK => ?_) AllReadyH.nil
                  go_simp
                  (go_at_call 60; go_loud (refine (HCM.out _).mono ?_; rintro E w2 ⟨rfl, hb2⟩))
                  refine hK.out _ _ (k2_below (by assumption) hlq hHeld) (fun hHeld => ?_)
                  clear hK K
                  try simp only [Act.put, List.setIfInBounds_toArray, List.set_cons_zero, List.set_cons_succ]
                  refine wpAnyH_take (i := 22) (oi := ⟨some 79, _, _, _, _, _⟩) (v := ?gv22) rfl (by kernel_rfl) (by kernel_rfl) (by kernel_rfl) (fun _ _ _ h => h) (Or.inl ⟨by rfl, ?gy22⟩) hHeld ?gr22
                  case gy22 => (intro W hSw; (try dsimp only at hSw); go_simp; try with_reducible rfl)
                  try simp only [Act.put, List.setIfInBounds_toArray, List.set_cons_zero, List.set_cons_succ]
                  refine wpAnyH_done (by kernel_rfl) ?_ _
                  cases z
                  · go_wp2
                    go_roundw
                    case rel => exact ⟨k + 1, by omega, by omega, by go_num, HIN2, k2_out HBQ.out hHeld⟩
                    case measure => have := HKN.out; simp [intOf]; omega
                  · go_wp2
                    go_ret
                    have ho : outB F n n = true := outB_mono (k := i + 1) (by rw [HOU2.out]; exact inB_mono HIN2.out n HKN.out) n HI.out
                    exact ⟨by rw [HR2.out, if_pos ho]; rfl, k2_out HBQ.out hHeld⟩
              · have HIN2 : Hid (inB F n i n = false) := Lib.hid (by
                  cases hh : inB F n i n with
                  | false => rfl
                  | true => have h9 := inB_mono hh k (by omega); rw [HIN.out] at h9; cases h9)
                clear hbq
                go_wp2
                go_roundw
                case rel => exact ⟨i + 1, by have := HI.out; omega, by go_num, Lib.hid (by rw [HOU2.out]; exact HIN2.out), HBQ.out⟩
                case measure => have := HI.out; simp [intOf]; omega
        · obtain rfl : n = i := by omega
          have HTW := Lib.hid (fun W (hW : Below w.heap.size w W) => twice_any A n c F W ((HS.out.below hW).more hW.size) HN.out.2 HF.out)
          have HR3 : Hid (r = if sumC F n n ≤ 0 then 3 else 0) := Lib.hid (by rw [HR2.out, if_neg (by rw [HO.out]; decide)])
          generalize sumC F n n = t at *
          by_cases ht : t ≤ 0
          · have htd : decide (t ≤ 0) = true := decide_eq_true ht
            have HT := Lib.hid ht
            clear ht hbw
            go_wp2_with (go_at_call 61; go_loud (refine (HTW.out _ HBW.out).mono ?_; rintro E w1 ⟨rfl, hb1⟩))
            go_ret
            exact ⟨by rw [HR3.out, if_pos HT.out]; rfl, HBW.out.trans (hb1.mono HBW.out.size)⟩
          · have htd : decide (t ≤ 0) = false := decide_eq_false ht
            have HT := Lib.hid ht
            clear ht hbw
            go_wp2_with (go_at_call 61; go_loud (refine (HTW.out _ HBW.out).mono ?_; rintro E w1 ⟨rfl, hb1⟩))
            go_ret
            exact ⟨by rw [HR3.out, if_neg (by have := HT.out; omega)]; rfl, HBW.out.trans (hb1.mono HBW.out.size)⟩
end Go.Proofs.Ytdmecagdjbjgjaa
