/- The walk of ContactOne. -/
import Derived.Test.YtjlbhifkhbpddaaA5
import Derived.Lib.MinMax
import Derived.Test.YtjlbhifkhbpddaaStill
namespace Go.Proofs.Ytjlbhifkhbpddaa
open Go.RowKit

theorem valid_low : validF 118000 = true := by decide
theorem valid_off : validF 118010 = false := by decide
theorem slice_to22 (A : Option Addr) (n c q : Nat) (hq : q ≤ c) (hc : c ≤ maxLen) (hnil : A = none → n = 0 ∧ c = 0) (W : World) : (Instr.slice 22 (.slice A n c) none (some (.int .i64 (q : Int))) none).run Try.prog W = .ok (.slice A q c) W := by
  unfold maxLen at hc
  have h0 : (0 : Int) ≤ (q : Int) := by omega
  have h1 : (q : Int) ≤ (c : Int) := by omega
  cases A with
  | none =>
    obtain ⟨rfl, rfl⟩ := hnil rfl
    obtain rfl : q = 0 := by omega
    go_simp
  | some a => go_simp

theorem RadioAt.drew {g : Nat} {v : Value} {l : List Cs} {W : World} (h : RadioAt g v l W) : RadioAt g v l W.drew := ⟨h.blk, h.own⟩
/-- Behind some rounds of tuning: the radio, and all that was there before is as it was. -/
def Tuned (g : Nat) (B : Nat) (k : Nat) (w wr : World) : Prop := ∃ v l, RadioAt g v l wr ∧ Good l ∧ l.length ≤ k ∧ Below B w wr ∧ B ≤ g

set_option maxRecDepth 100000 in
set_option maxHeartbeats 8000000 in
theorem One_any (A : Option Addr) (n c N : Nat) (f : Nat → Cs) (w : World) (hA : Sl w w.heap.size 3 A n (fun i => csV (f i))) (hs : ∀ i, i < n → (f i).1.size ≤ maxLen) (hn : n ≤ c) (hc : c ≤ maxLen) (hnil : A = none → n = 0 ∧ c = 0) (hN : N = min n 12) :
    Calls Try.prog 3 #[.slice A n c] w fun e w' => e = .returned (.bool true) ∧ Below w.heap.size w w' := by
  have hmin : min (n : Int) 12 = (N : Int) := by omega
  have hNn : N ≤ n := by omega
  have hN12 : N ≤ 12 := by omega
  have hslo := slice_to22 A n c N (by omega) hc hnil
  have HA := Lib.hid hA
  have HS := Lib.hid hs
  unfold maxLen at hc
  clear hA hN hs hnil
  go_enter Try.func3, Try.ntmps3
  go_wp2_with (first
    | (go_at_call 5; go_loud (refine (New_any _).mono ?_; rintro e w1 ⟨rfl, hR, hb1⟩; have HR := Lib.hid hR; have HB1 := Lib.hid hb1; clear hR hb1))
    | (go_at_call 6; go_loud (refine (Valid_any _ _).mono ?_; rintro e w2 ⟨he, rfl⟩; first | (rw [valid_low] at he; subst he) | (rw [valid_off] at he; subst he))))
  have hgz : w.heap.size < w1.heap.size := HR.out.lt
  go_loopw [30] (fun x wr => ∃ k : Nat, k ≤ N ∧ x = .int .i64 k ∧ Hid (Tuned w.heap.size w.heap.size k w wr)) (fun x _ => N - (intOf x).toNat)
  case atStart => exact ⟨0, by omega, rfl, Lib.hid ⟨_, _, HR.out, good_nil, by simp, HB1.out, Nat.le_refl _⟩⟩
  case round =>
    obtain ⟨k, hk, rfl, HT⟩ := hrel
    obtain ⟨v, l, hR1, hG1, hl1, hB1, _⟩ := HT.out
    have hbz := hB1.size
    have hrl := hR1.lt
    by_cases hkN : k < N
    · obtain ⟨b, off, rfl, hb, hr⟩ := HA.out (by omega)
      have o0 : wr.cell? ⟨b, off + k * 3, none⟩ = some (.string (f k).1) := (hB1.cell (p := ⟨b, _, none⟩) hb).trans (hr k (by omega) 0 _ rfl)
      have o1 : wr.cell? ⟨b, off + k * 3 + 1, none⟩ = some (.int .i64 (f k).2.1) := (hB1.cell (p := ⟨b, _, none⟩) hb).trans (hr k (by omega) 1 _ rfl)
      have o2 : wr.cell? ⟨b, off + k * 3 + 2, none⟩ = some (.int .i64 (f k).2.2) := (hB1.cell (p := ⟨b, _, none⟩) hb).trans (hr k (by omega) 2 _ rfl)
      have hsz := HS.out k (by omega)
      have hk0 : (0 : Int) ≤ (k : Int) := by omega
      have hk1 : (k : Int) < (N : Int) := by omega
      clear hr
      generalize hx : f k = x at *
      clear hx
      have hTu := fun o => Tune_any (hR1.alloc o) hG1.sorted (by omega) x hsz
      obtain ⟨xc, xf, xt⟩ := x
      dsimp only at *
      have HTu := Lib.hid hTu
      have HG1 := Lib.hid hG1
      have HR1 := Lib.hid hR1
      have HB := Lib.hid hB1
      have hown1 := hR1.own
      have HO1 := Lib.hid hown1
      clear hTu hG1 hR1 hB1 hown1 HT
      go_wp2_with (go_at_call 7; go_loud (refine (HTu.out _).mono ?_; rintro e w2 ⟨code, v', l', rfl, hR2, hU2, hok, hno⟩))
      have hbl : w2.heap[wr.heap.size]? = some (.cells #[.string xc, .int .i64 xf, .int .i64 xt] 27 (0, 0)) := (hU2.keep wr.heap.size (by simp) (by omega) (fun e => by have := (HO1.out.lt _ e).2; omega)).trans (heap_alloc_new wr _)
      have t0 := cell_of_row w2 wr.heap.size 0 _ 27 (0, 0) hbl
      have t1 := cell_of_row w2 wr.heap.size 1 _ 27 (0, 0) hbl
      have hlb : wr.heap.size < w2.heap.size := (Array.getElem?_eq_some_iff.1 hbl).1
      have hB2 : Below w.heap.size w w2 := (HB.out.alloc hbz _).trans hU2.below
      have HR2 := Lib.hid hR2
      have HB2 := Lib.hid hB2
      have HOK := Lib.hid hok
      have HNO := Lib.hid hno
      clear hR2 hB2 hok hno hbl hU2
      by_cases hco : code = 0
      · subst hco
        obtain ⟨⟨hv, _⟩, rfl⟩ := HOK.out rfl
        have hgood := put_good HG1.out (xc, xf, xt) hv
        have hlen := put_len l (xc, xf, xt)
        have hmem := mem_on (put_mem l (xc, xf, xt))
        have HGD := Lib.hid hgood
        have HME := Lib.hid hmem
        have HV := Lib.hid hv
        clear hgood hmem hv HOK HNO
        generalize putC l (xc, xf, xt) = l2 at *
        have hon : (onL l2 xf).length ≤ 1000 := by rw [on_len]; exact Nat.le_trans List.countP_le_length (by omega)
        go_region_held3 (fun W => W.cell? ⟨wr.heap.size, 0, none⟩ = some (.string xc) ∧ W.cell? ⟨wr.heap.size, 1, none⟩ = some (.int .i64 xf)) (first | go_keep | ((try dsimp only); constructor <;> go_keep) | exact ⟨e0, e1⟩)
          (first
            | (go_at_call 9; go_loud (refine (On_any (by exact HR2.out.drew) (by omega) xf).mono ?_; rintro e w3 ⟨OA, oc, rfl, ho3, hb3⟩; have e0 := (hb3.cell (p := ⟨wr.heap.size, 0, none⟩) hlb).trans t0; have e1 := (hb3.cell (p := ⟨wr.heap.size, 1, none⟩) hlb).trans t1; have HO3 := Lib.hid ho3; have HB3 := Lib.hid hb3; clear ho3 hb3))
            | (go_at_call 8; go_loud (refine (Has_any _ _ oc OA (onL l2 xf) xc _ HO3.out rfl (by omega)).mono ?_; rintro e w4 ⟨he4, rfl⟩; rw [HME.out] at he4; subst he4)))
        go_wp2
        go_roundw
        case rel => exact ⟨k + 1, by omega, by go_num, Lib.hid ⟨v', l2, HR2.out.drew.below HB3.out, HGD.out, by omega, HB2.out.drew.trans (HB3.out.mono HB2.out.size), Nat.le_refl _⟩⟩
        case measure => simp [intOf]; omega
      · have hco' : (code == 0) = false := by simpa using hco
        have HCO := Lib.hid hco
        clear hco
        go_quiet (fail)
        go_wp2
        go_roundw
        case rel => exact ⟨k + 1, by omega, by go_num, Lib.hid ⟨v', l', by exact ⟨HR2.out.blk, HR2.out.own⟩, by rw [HNO.out HCO.out]; exact HG1.out, by rw [HNO.out HCO.out]; omega, below_drewN HB2.out _, Nat.le_refl _⟩⟩
        case measure => simp [intOf]; omega
    · obtain rfl : N = k := by omega
      have HR1 := Lib.hid hR1
      have HG1 := Lib.hid hG1
      have HB := Lib.hid hB1
      clear hR1 hG1 hB1 HT HR HB1
      go_wp2_with (go_at_call 10; go_loud (refine (List_any HR1.out (by omega)).mono ?_; rintro e w2 ⟨LA, lc, rfl, hl2, hb2⟩))
      have hl22 := Nat.lt_of_lt_of_le hrl hb2.size
      have hrow := Sl_rows csV_len hl2 rfl (by decide)
      have hcap := own_cap hl2
      have hnl := own_nil hl2
      unfold maxLen at hcap
      have HLR := Lib.hid hrow
      have HR2 := Lib.hid (HR1.out.below hb2)
      have HB2 := Lib.hid (bstepB (Nat.le_refl _) HB.out hb2)
      have HNL := Lib.hid hnl
      clear hrow hl2 hb2 HR1 HB hnl
      go_loopw [7, 59] (fun m x wr => ∃ j : Nat, j ≤ l.length ∧ x = .int .i64 j ∧ m = .int .i64 (manyC l j) ∧ Below w2.heap.size w2 wr) (fun _ x _ => l.length - (intOf x).toNat)
      case atStart => exact ⟨0, by omega, rfl, by rw [many_zero]; rfl, Below.refl _ _⟩
      case round =>
        obtain ⟨j, hj, rfl, rfl, hbr⟩ := hrel
        obtain ⟨wo, rfl⟩ : ∃ wo : World, wo = wr := ⟨_, rfl⟩
        have hmle := many_le l j
        by_cases hjn : j < l.length
        · obtain ⟨b, off, rfl, hb, hr⟩ := HLR.out (by omega)
          have hxx : l[j]! = l[j] := getElem!_pos l j hjn
          have o0 : wo.cell? ⟨b, off + j * 3, none⟩ = some (.string (l[j]).1) := (hbr.cell (p := ⟨b, _, none⟩) hb).trans ((hr j hjn 0 _ rfl).trans (by rw [hxx]))
          have o1 : wo.cell? ⟨b, off + j * 3 + 1, none⟩ = some (.int .i64 (l[j]).2.1) := (hbr.cell (p := ⟨b, _, none⟩) hb).trans ((hr j hjn 1 _ rfl).trans (by rw [hxx]))
          have o2 : wo.cell? ⟨b, off + j * 3 + 2, none⟩ = some (.int .i64 (l[j]).2.2) := (hbr.cell (p := ⟨b, _, none⟩) hb).trans ((hr j hjn 2 _ rfl).trans (by rw [hxx]))
          have hval := HG1.out.valid l[j] (List.getElem_mem hjn)
          have hrad := HR2.out.below hbr
          have hbwo := Nat.lt_of_lt_of_le hb hbr.size
          have hon : (onL l (l[j]).2.1).length ≤ 1000 := by rw [on_len]; exact Nat.le_trans List.countP_le_length (by omega)
          have HNEW := Lib.hid (fun h => many_new l hjn h)
          have HOLD := Lib.hid (fun h => many_old l hjn h)
          have HPV : Hid (∀ i (hi : i < l.length), i < j → lsS (l[i]).1 (l[j]).1 = true) := Lib.hid fun i hi hij => List.pairwise_iff_getElem.1 HG1.out.sorted i j hi hjn hij
          clear hxx
          generalize l[j] = x at *
          obtain ⟨xc, xf, xt⟩ := x
          dsimp only at *
          have HV := Lib.hid (fun W => (Valid_any xf W).mono (R' := fun e w' => e = .returned (.bool true) ∧ W = w') fun _ _ h => ⟨by rw [hval] at h; exact h.1, h.2⟩)
          have HRA := Lib.hid hrad
          have HBR := Lib.hid hbr
          have hj0 : (0 : Int) ≤ (j : Int) := by omega
          have hjl : (j : Int) < (l.length : Int) := by omega
          have hsl2 := slice_to22 (some ⟨b, off, none⟩) l.length lc j (by omega) (by unfold maxLen; omega) (fun h => by cases h)
          have HRW := Lib.hid hr
          have HSL2 := Lib.hid hsl2
          have hso := on_sorted HG1.out.sorted xf
          have HSO := Lib.hid hso
          clear hval hrad hbr hr hsl2 hso
          obtain ⟨W, hW⟩ : ∃ W, W = wo.alloc (.cells #[.string xc, .int .i64 xf, .int .i64 xt] 27) := ⟨_, rfl⟩
          have gW : W.heap[wo.heap.size]? = some (.cells #[.string xc, .int .i64 xf, .int .i64 xt] 27 (0, 0)) := by rw [hW]; exact heap_alloc_new wo _
          have hRW : RadioAt w.heap.size v l W := by rw [hW]; exact HRA.out.alloc _
          have hBW : Below wo.heap.size wo W := by rw [hW]; exact (Below.refl _ wo).alloc (Nat.le_refl _) _
          have q0 := cell_of_row W wo.heap.size 0 _ 27 (0, 0) gW
          have q1 := cell_of_row W wo.heap.size 1 _ 27 (0, 0) gW
          have hlW := (Array.getElem?_eq_some_iff.1 gW).1
          have HRW2 := Lib.hid hRW
          have HBW := Lib.hid hBW
          have HEW := Lib.hid hW
          clear hRW hBW gW hW
          rcases Nat.eq_zero_or_pos j with hjz | hjp
          case' inl =>
            have hjd : decide ((0 : Int) < (j : Int)) = false := by simp; omega
            have hjd2 : ¬ 0 < j := by omega
            clear hjz
            go_wp2_with fail
            rw [← HEW.out]
            refine wp_region_still_tail 23 (by kernel_rfl) (by kernel_rfl) ?_
            simp only [List.take_succ_cons, List.take_zero, List.drop_succ_cons, List.drop_zero]
            refine wpStill_of_quiet _ _ ?_
            repeat (go_big_quiet_step (fail))
            go_big_quiet_want
            go_big_quiet_op
            refine ⟨_, (HV.out _).mono fun _ _ h => ⟨h.1, h.2.symm⟩, ?_⟩
            go_big_quiet_on
            repeat (go_big_quiet_step (fail))
            refine wpQuiet_nil ?_
            clear hjd hjd2
          case' inr =>
            have hjd : decide ((0 : Int) < (j : Int)) = true := by simp; omega
            have p0 : W.cell? ⟨b, off + (j - 1) * 3, none⟩ = some (.string (l[j - 1]!).1) := (HBW.out.cell (p := ⟨b, _, none⟩) hbwo).trans ((HBR.out.cell (p := ⟨b, _, none⟩) hb).trans (HRW.out (j - 1) (by omega) 0 _ rfl))
            have hpl := HPV.out (j - 1) (by omega) (by omega)
            rw [← getElem!_pos l (j - 1) (by omega)] at hpl
            generalize (l[j - 1]!).1 = pc at *
            have hb1 : Op.bytesLess xc.toList pc.toList = false := lsS_asymm hpl
            have hb2 : (xc.toList == pc.toList) = false := by
              rw [ba_beq, decide_eq_false_iff_not]
              intro e
              subst e
              rw [lsS_irr] at hpl; cases hpl
            have hw1 : IntKind.i64.wrap ((j : Int) - 1) = (j : Int) - 1 := IntWalk.i64_in _ (by omega)
            have hj1 : (0 : Int) ≤ (j : Int) - 1 := by omega
            have hj2 : (j : Int) - 1 < (l.length : Int) := by omega
            have hj3 : ((j : Int) - 1).toNat = j - 1 := by omega
            clear hpl
            go_wp2_with fail
            rw [← HEW.out]
            refine wp_region_still_tail 23 (by kernel_rfl) (by kernel_rfl) ?_
            simp only [List.take_succ_cons, List.take_zero, List.drop_succ_cons, List.drop_zero]
            refine wpStill_of_quiet _ _ ?_
            repeat (go_big_quiet_step (fail))
            go_big_quiet_want
            go_big_quiet_op
            refine ⟨_, (HV.out _).mono fun _ _ h => ⟨h.1, h.2.symm⟩, ?_⟩
            go_big_quiet_on
            repeat (go_big_quiet_step (fail))
            refine wpQuiet_nil ?_
            clear hj1 hj2 hj3 hw1 hb1 hb2 p0
          all_goals
            change wpList _ _ _ _ _ W.drew
            go_wp2_with (first
              | (go_at_call 9; go_loud (refine (On_any (by exact HRW2.out.drew) (by omega) xf).mono ?_; rintro e w3 ⟨OA, oc, rfl, ho3, hb3⟩; have HO3 := Lib.hid ho3; have HB3 := Lib.hid hb3; have r1 : w3.cell? ⟨wo.heap.size, 1, none⟩ = some (.int .i64 xf) := (hb3.cell (p := ⟨wo.heap.size, 1, none⟩) hlW).trans q1; have hsl3 := HSL2.out; clear ho3 hb3))
              | (go_at_call 11; go_loud (refine (Ordered_any _ _ oc OA (onL l xf) _ HO3.out rfl hon HSO.out).mono ?_; rintro e w4 ⟨rfl, q4, rfl⟩)))
            obtain ⟨wq, hwq⟩ : ∃ wq, wq = w3.drewN q4 := ⟨_, rfl⟩
            rw [← hwq]
            have r2 : wq.cell? ⟨wo.heap.size, 1, none⟩ = some (.int .i64 xf) := by rw [hwq]; exact r1
            have hlq : wo.heap.size < wq.heap.size := by rw [hwq]; exact Nat.lt_of_lt_of_le hlW HB3.out.size
            have HBQ := Lib.hid (show Below wo.heap.size wo wq by rw [hwq]; exact below_drewN ((HBW.out.drew).trans (HB3.out.mono HBW.out.size)) q4)
            clear r1 q0 q1 hsl3 hwq
            go_loopw [11, 95] (fun fi x wr => ∃ i : Nat, i ≤ j ∧ x = .int .i64 i ∧ fi = .bool (!metF l i xf) ∧ Below wq.heap.size wq wr) (fun _ x _ => j - (intOf x).toNat)
            case' atStart => exact ⟨0, by omega, rfl, by rw [met_zero]; rfl, Below.refl _ _⟩
            case' round =>
              obtain ⟨i, hij, rfl, rfl, hbi⟩ := hrel
              have r3 : wr.cell? ⟨wo.heap.size, 1, none⟩ = some (.int .i64 xf) := (hbi.cell (p := ⟨wo.heap.size, 1, none⟩) hlq).trans r2
              have hlr := Nat.lt_of_lt_of_le hlq hbi.size
              by_cases hlt : i < j
              · have hxi : l[i]! = l[i] := getElem!_pos l i (by omega)
                have hbw : b < wo.heap.size := hbwo
                have rd : ∀ (t : Nat) (u : Value), (csV l[i])[t]? = some u → wr.cell? ⟨b, off + i * 3 + t, none⟩ = some u := fun t u hu => (hbi.cell (p := ⟨b, _, none⟩) (Nat.lt_trans hbw hlq)).trans ((HBQ.out.cell (p := ⟨b, _, none⟩) hbw).trans ((HBR.out.cell (p := ⟨b, _, none⟩) hb).trans (HRW.out i (by omega) t u (by rw [hxi]; exact hu))))
                have s0 : wr.cell? ⟨b, off + i * 3, none⟩ = some (.string (l[i]).1) := rd 0 _ rfl
                have s1 : wr.cell? ⟨b, off + i * 3 + 1, none⟩ = some (.int .i64 (l[i]).2.1) := rd 1 _ rfl
                have s2 : wr.cell? ⟨b, off + i * 3 + 2, none⟩ = some (.int .i64 (l[i]).2.2) := rd 2 _ rfl
                have hms := met_step l xf (show i < l.length by omega)
                have hi0 : (0 : Int) ≤ (i : Int) := by omega
                have hij' : (i : Int) < (j : Int) := by omega
                have hil : (i : Int) < (l.length : Int) := by omega
                have HBI := Lib.hid hbi
                clear rd hxi hbi
                generalize l[i] = y at *
                obtain ⟨yc, yf, yt⟩ := y
                dsimp only at *
                have hne : wr.heap.size ≠ wo.heap.size := by omega
                cases hm : metF l i xf with
                | true =>
                  rw [hm] at hms
                  have HMS := Lib.hid hms
                  clear hms hm
                  go_wp2
                  go_roundw
                  case rel => exact ⟨i + 1, by omega, by go_num, by rw [HMS.out]; rfl, HBI.out.alloc HBI.out.size _⟩
                  case measure => simp [intOf]; omega
                | false =>
                  rw [hm] at hms
                  cases he : (yf == xf) with
                  | true =>
                    rw [he] at hms
                    have he' : (yf != xf) = false := by rw [bne, he]; rfl
                    have HMS := Lib.hid hms
                    clear hms hm he
                    go_wp2
                    go_roundw
                    case rel => exact ⟨i + 1, by omega, by go_num, by rw [HMS.out]; rfl, HBI.out.alloc HBI.out.size _⟩
                    case measure => simp [intOf]; omega
                  | false =>
                    rw [he] at hms
                    have he' : (yf != xf) = true := by rw [bne, he]; rfl
                    have HMS := Lib.hid hms
                    clear hms hm he
                    go_wp2
                    go_roundw
                    case rel => exact ⟨i + 1, by omega, by go_num, by rw [HMS.out]; rfl, HBI.out.alloc HBI.out.size _⟩
                    case measure => simp [intOf]; omega
              · obtain rfl : i = j := by omega
                have HBI := Lib.hid hbi
                have HRI := Lib.hid (show RadioAt w.heap.size v l wr from (HRA.out.below HBQ.out).below hbi)
                have HBO := Lib.hid (show Below w2.heap.size w2 wr from HBR.out.trans ((HBQ.out.trans (hbi.mono HBQ.out.size)).mono HBR.out.size))
                clear hbi
                cases hm : metF l i xf with
                | true =>
                  have HN := Lib.hid (HOLD.out hm)
                  clear hm
                  go_wp2
                  go_roundw
                  case rel => exact ⟨i + 1, by omega, by go_num, by rw [HN.out], HBO.out⟩
                  case measure => simp [intOf]; omega
                | false =>
                  have HN := Lib.hid (HNEW.out hm)
                  have hle2 := many_le l (i + 1)
                  rw [HN.out] at hle2
                  clear hm
                  go_wp2_with (go_at_call 9; go_loud (refine (On_any HRI.out (by omega) xf).mono ?_; rintro e w7 ⟨OA7, oc7, rfl, ho7, hb7⟩; clear ho7))
                  go_roundw
                  case rel => exact ⟨i + 1, by omega, by go_num, by rw [HN.out]; go_num, HBO.out.trans (hb7.mono HBO.out.size)⟩
                  case measure => simp [intOf]; omega
        · obtain rfl : l.length = j := by omega
          have hma := many_all l
          have HMA := Lib.hid hma
          have HBR := Lib.hid hbr
          have hbe : (((manyC l l.length : Nat) : Int) == (l.length : Int)) = true := by rw [hma]; simp
          clear hma hbr
          go_wp2
          go_ret
          exact ⟨by rw [HMA.out]; simp, HB2.out.trans (HBR.out.mono HB2.out.size)⟩
end Go.Proofs.Ytjlbhifkhbpddaa
