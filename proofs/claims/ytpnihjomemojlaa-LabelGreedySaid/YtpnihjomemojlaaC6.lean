/- Package label, the other end: LabelsFit. -/
import Derived.Test.YtpnihjomemojlaaC5
import Derived.Test.YtpnihjomemojlaaC2
import Derived.Test.YtpnihjomemojlaaMore
import Derived.Deep.CutRange
import Derived.Deep.RegionHeld3
namespace Go.Proofs.Ytpnihjomemojlaa
open Go.RowKit

/-- One label against the points and the labels before it. -/
def FitAt (l : List It) (sp : Nat → Int) (i : Nat) : Prop :=
  0 ≤ sp i → (∀ y ∈ l, insB (boxS l[i]! (sp i).toNat) y.x y.y = false) ∧ ∀ k, k < i → 0 ≤ sp k → ∀ x y, insB (boxS l[i]! (sp i).toNat) x y = true → insB (boxS l[k]! (sp k).toNat) x y = false
def FitP (P : Prop) (w : World) (e : Ending) (w' : World) : Prop := (∃ r, e = .returned (.bool r) ∧ (r = true ↔ P)) ∧ Below w.heap.size w w'
theorem FitP.no {P : Prop} {w w' : World} (h : ¬ P) (hb : Below w.heap.size w w') : FitP P w (.returned (.bool false)) w' := ⟨⟨false, rfl, by simp [h]⟩, hb⟩
theorem FitP.yes {P : Prop} {w w' : World} (h : P) (hb : Below w.heap.size w w') : FitP P w (.returned (.bool true)) w' := ⟨⟨true, rfl, by simp [h]⟩, hb⟩

theorem bs_alloc {W0 W : World} {Q : Prop} (o : Obj) (h : Below W0.heap.size W0 W ∧ Q) : Below W0.heap.size W0 (W.alloc o) := h.1.alloc h.1.size o
theorem bs_below {W0 W W' : World} {Q : Prop} (hb : Below W.heap.size W W') (h : Below W0.heap.size W0 W ∧ Q) : Below W0.heap.size W0 W' := h.1.trans (hb.mono h.1.size)
theorem bs_set4 {W0 W : World} {Q : Prop} {B : Nat} (hB : W0.heap.size ≤ B) (a b c d : Value) (h : Below W0.heap.size W0 W ∧ Q) : Below W0.heap.size W0 ((((W.setCell ⟨B, 0, none⟩ a).setCell ⟨B, 1, none⟩ b).setCell ⟨B, 2, none⟩ c).setCell ⟨B, 3, none⟩ d) :=
  (((h.1.setCell (p := ⟨B, 0, none⟩) hB a).setCell (p := ⟨B, 1, none⟩) hB b).setCell (p := ⟨B, 2, none⟩) hB c).setCell (p := ⟨B, 3, none⟩) hB d

theorem bs_left {W0 W : World} {Q : Prop} (h : Below W0.heap.size W0 W ∧ Q) : Below W0.heap.size W0 W := h.1

set_option maxRecDepth 100000 in
set_option maxHeartbeats 16000000 in
theorem Fit_any (A S : Option Addr) (n cl cs : Nat) (l : List It) (sp : List Int) (w : World) (hA : Sl w w.heap.size 4 A n (fun i => itV l[i]!)) (hS : Sl w w.heap.size 1 S n (fun i => intV1 sp[i]!)) (hl : l.length = n) (hn : n ≤ 6) (hncl : n ≤ cl)
    (hok : ∀ i ∈ l, OkC i) (hr : ∀ i, i < n → sp[i]! < 8) :
    Calls Try.prog 14 #[.slice A n cl, .slice S n cs] w (FitP (Fit l (fun i => sp[i]!)) w) := by
  have HA := Lib.hid hA
  have HS := Lib.hid hS
  have HL := Lib.hid hl
  have HOk := Lib.hid hok
  have HR := Lib.hid hr
  obtain ⟨P, hP⟩ : ∃ P, Fit l (fun i => sp[i]!) = P := ⟨_, rfl⟩
  rw [hP]
  have HP : Hid (P ↔ ∀ i, i < n → FitAt l (fun i => sp[i]!) i) := Lib.hid (by rw [← hP]; unfold Fit FitAt; rw [hl])
  clear hA hS hl hok hr hP
  go_enter Try.func14, Try.ntmps14
  go_wp2_with fail
  go_loopw [5, 6, 7, 9, 10, 11, 12, 13, 14, 17, 35, 50] (fun _ _ _ _ _ _ _ _ _ t17 _ _ wr => ∃ i : Nat, i ≤ n ∧ t17 = .int .i64 (i : Int) ∧ Hid (∀ i', i' < i → FitAt l (fun i => sp[i]!) i') ∧ Below w.heap.size w wr) (fun _ _ _ _ _ _ _ _ _ t17 _ _ _ => n - (intOf t17).toNat)
  case atStart => exact ⟨0, by omega, rfl, Lib.hid (fun i' h => absurd h (by omega)), Below.refl _ _⟩
  case round =>
    obtain ⟨i, hi, rfl, HF, hbr⟩ := hrel
    by_cases hlt : i < n
    · have hi0 : (0 : Int) ≤ (i : Int) := by omega
      have hin : (i : Int) < (n : Int) := by omega
      obtain ⟨ba, oa, rfl, hba, hra⟩ := HA.out (by omega)
      obtain ⟨bs, os, rfl, hbs, hrs⟩ := HS.out (by omega)
      have hc : w.rangeAt ba (oa + i * 4) (itV l[i]!) := hra i hlt
      have hcs : w.rangeAt bs (os + i * 1) (intV1 sp[i]!) := hrs i hlt
      have HMi := Lib.hid (show l[i]! ∈ l by rw [getElem!_pos l i (by rw [HL.out]; exact hlt)]; exact List.getElem_mem _)
      have hsi := HR.out i hlt
      obtain ⟨it, hit⟩ : ∃ it, l[i]! = it := ⟨_, rfl⟩
      obtain ⟨s, hs⟩ : ∃ s, sp[i]! = s := ⟨_, rfl⟩
      rw [hit] at hc HMi
      rw [hs] at hcs hsi
      have HIt := Lib.hid hit
      have HSp := Lib.hid hs
      have c0 : wr.cell? ⟨ba, oa + i * 4, none⟩ = some (.int .i64 it.x) := (hbr.cell (p := ⟨ba, oa + i * 4, none⟩) hba).trans (hc 0 _ rfl)
      have c1 : wr.cell? ⟨ba, oa + i * 4 + 1, none⟩ = some (.int .i64 it.y) := (hbr.cell (p := ⟨ba, oa + i * 4 + 1, none⟩) hba).trans (hc 1 _ rfl)
      have c2 : wr.cell? ⟨ba, oa + i * 4 + 2, none⟩ = some (.int .i64 it.w) := (hbr.cell (p := ⟨ba, oa + i * 4 + 2, none⟩) hba).trans (hc 2 _ rfl)
      have c3 : wr.cell? ⟨ba, oa + i * 4 + 3, none⟩ = some (.int .i64 it.h) := (hbr.cell (p := ⟨ba, oa + i * 4 + 3, none⟩) hba).trans (hc 3 _ rfl)
      obtain ⟨W0, hW0⟩ : ∃ W0, wr.alloc (.cells #[.int .i64 it.x, .int .i64 it.y, .int .i64 it.w, .int .i64 it.h] 31) = W0 := ⟨_, rfl⟩
      have G0 := Lib.hid (show W0.heap[wr.heap.size]? = some (.cells #[.int .i64 it.x, .int .i64 it.y, .int .i64 it.w, .int .i64 it.h] 31 (0, 0)) by rw [← hW0]; exact heap_alloc_new wr _)
      have hlt0 : wr.heap.size < W0.heap.size := (Array.getElem?_eq_some_iff.1 G0.out).1
      have B0 := Lib.hid (show Below w.heap.size w W0 by rw [← hW0]; exact hbr.alloc hbr.size _)
      have e0 := cell_of_row _ _ 0 _ 31 (0, 0) G0.out
      have e1 := cell_of_row _ _ 1 _ 31 (0, 0) G0.out
      have e2 := cell_of_row _ _ 2 _ 31 (0, 0) G0.out
      have e3 := cell_of_row _ _ 3 _ 31 (0, 0) G0.out
      have k0 : W0.cell? ⟨bs, os + i, none⟩ = some (.int .i64 s) := by
        have := (B0.out.cell (p := ⟨bs, os + i * 1, none⟩) hbs).trans (hcs 0 _ rfl)
        simpa using this
      have hzr := hbr.size
      have hz0 := B0.out.size
      clear hc hcs hra hrs hit hs hbr
      by_cases hs0 : s < 0
      · have HF2 := Lib.hid (show ∀ i', i' < i + 1 → FitAt l (fun i => sp[i]!) i' from fun i' h => by
          by_cases e : i' = i
          · subst e
            intro h0
            have h0 : 0 ≤ sp[i']! := h0
            rw [HSp.out] at h0; omega
          · exact HF.out i' (by omega))
        go_wp2_with fail
        go_roundw
        case rel => exact ⟨i + 1, by omega, by go_num, HF2, B0.out⟩
        case measure => simp [intOf]; omega
      · obtain ⟨sn, hsn⟩ : ∃ sn : Nat, s = (sn : Int) := ⟨s.toNat, by omega⟩
        subst hsn
        have hsn8 : sn < 8 := by omega
        have HBox := Lib.hid (fun W => LabelBox_any it sn hsn8 W)
        have HbD := boxS_okD (HOk.out _ HMi.out) sn
        obtain ⟨bx, hbx⟩ : ∃ bx, boxS it sn = bx := ⟨_, rfl⟩
        rw [hbx] at HBox HbD
        have HBX := Lib.hid hbx
        obtain ⟨b1, b2, b3, b4⟩ := bx
        dsimp only at HBox
        have HbD := Lib.hid HbD
        clear hbx
        obtain ⟨gi, hgi⟩ : ∃ gi, wr.heap.size = gi := ⟨_, rfl⟩
        rw [hgi] at e0 e1 e2 e3 hlt0
        have hsW := Nat.lt_of_lt_of_le hbs hz0
        have hS5 : ∀ W, Below W0.heap.size W0 W → Below W0.heap.size W0 W ∧ W.cell? ⟨gi, 0, none⟩ = some (.int .i64 it.x) ∧ W.cell? ⟨gi, 1, none⟩ = some (.int .i64 it.y) ∧ W.cell? ⟨gi, 2, none⟩ = some (.int .i64 it.w) ∧ W.cell? ⟨gi, 3, none⟩ = some (.int .i64 it.h) ∧ W.cell? ⟨bs, os + i, none⟩ = some (.int .i64 (sn : Int)) := fun W hW =>
          ⟨hW, (hW.cell (p := ⟨gi, 0, none⟩) hlt0).trans e0, (hW.cell (p := ⟨gi, 1, none⟩) hlt0).trans e1, (hW.cell (p := ⟨gi, 2, none⟩) hlt0).trans e2, (hW.cell (p := ⟨gi, 3, none⟩) hlt0).trans e3, (hW.cell (p := ⟨bs, os + i, none⟩) hsW).trans k0⟩
        have HS5 := Lib.hid hS5
        have hs5 := hS5 _ (Below.refl W0.heap.size W0).drew
        go_upto_region 5 with fail
        go_cut [7] from 18 to 93 (fun s7 wx => ∃ B, s7 = .pointer (some ⟨B, 0, none⟩) ∧ wx.heap[B]? = some (.cells #[.int .i64 b1, .int .i64 b2, .int .i64 b3, .int .i64 b4] 23 (0, 0)) ∧ Below W0.heap.size W0 wx ∧ W0.heap.size ≤ B)
        case first =>
          clear hS5 c0 c1 c2 c3 e0 e1 e2 e3 k0
          go_region_held3 (fun W => Below W0.heap.size W0 W ∧ W.cell? ⟨gi, 0, none⟩ = some (.int .i64 it.x) ∧ W.cell? ⟨gi, 1, none⟩ = some (.int .i64 it.y) ∧ W.cell? ⟨gi, 2, none⟩ = some (.int .i64 it.w) ∧ W.cell? ⟨gi, 3, none⟩ = some (.int .i64 it.h) ∧ W.cell? ⟨bs, os + i, none⟩ = some (.int .i64 (sn : Int))) (first | assumption | exact HS5.out _ (bs_alloc _ (by assumption)) | exact HS5.out _ (BW.out.2.alloc BW.out.2.size _) | exact HS5.out _ (bs_below (by assumption) (by assumption)) | exact HS5.out _ (bs_set4 (Nat.le_refl _) _ _ _ _ (by assumption))) (first
            | (go_at_call 22; go_loud (refine (HBox.out _).mono ?_; rintro e w2 ⟨rfl, hb2⟩; have BW := Lib.hid (And.intro trivial (bs_below hb2 (by assumption))); try (have gz := (hb2.block W0.heap.size (by simp)).trans (heap_alloc_new W0 (.cells #[.int .i64 0, .int .i64 0, .int .i64 0, .int .i64 0] 23)); have z0 := cell_of_row w2 _ 0 _ 23 (0, 0) gz; have z1 := cell_of_row w2 _ 1 _ 23 (0, 0) gz; have z2 := cell_of_row w2 _ 2 _ 23 (0, 0) gz; have z3 := cell_of_row w2 _ 3 _ 23 (0, 0) gz; have y0 := frozen_of_row w2 W0.heap.size 0 _ 23 gz; have y1 := frozen_of_row w2 W0.heap.size 1 _ 23 gz; have y2 := frozen_of_row w2 W0.heap.size 2 _ 23 gz; have y3 := frozen_of_row w2 W0.heap.size 3 _ 23 gz; have GZ := Lib.hid gz; clear gz))))
          all_goals
            go_wp2_with fail
            go_meet
            case rel =>
              refine ⟨_, rfl, ?_, bs_left (by assumption), ?_⟩
              · first
                  | exact heap_alloc_new _ _
                  | exact heap_setCell_same _ _ 3 _ 23 _ (heap_setCell_same _ _ 2 _ 23 _ (heap_setCell_same _ _ 1 _ 23 _ (heap_setCell_same _ _ 0 _ 23 _ GZ.out)))
              · first
                  | exact BW.out.2.size
                  | exact Nat.le_refl _
        case rest =>
          obtain ⟨B, rfl, hgB, hbB, hWB⟩ := hcut
          have hBlt : B < wc.heap.size := (Array.getElem?_eq_some_iff.1 hgB).1
          have GB := Lib.hid hgB
          have BC := Lib.hid (B0.out.trans (hbB.mono hz0))
          have RC := Lib.hid (Below.refl wc.heap.size wc)
          have hzc := BC.out.size
          clear hgB hbB hS5 hs5 e0 e1 e2 e3 k0 c0 c1 c2 c3
          go_wp2_with fail
          go_loopw [9, 35] (fun _ t35 wr => ∃ a : Nat, a ≤ n ∧ t35 = .int .i64 (a : Int) ∧ Hid (∀ y, y < a → insB ⟨b1, b2, b3, b4⟩ (l[y]!).x (l[y]!).y = false) ∧ Below wc.heap.size wc wr) (fun _ t35 _ => n - (intOf t35).toNat)
          case atStart => exact ⟨0, by omega, rfl, Lib.hid (fun y h => absurd h (by omega)), RC.out⟩
          case round =>
            obtain ⟨a, ha, rfl, HY, hba2⟩ := hrel
            have BR := Lib.hid (BC.out.trans (hba2.mono hzc))
            have hzr2 := hba2.size
            by_cases hlta : a < n
            · have ha0 : (0 : Int) ≤ (a : Int) := by omega
              have han : (a : Int) < (n : Int) := by omega
              obtain ⟨ba', oa', hAe, hba', hra⟩ := HA.out (by omega)
              have hA9 := Option.some.inj hAe
              have eb : ba = ba' := congrArg Addr.block hA9
              have eo : oa = oa' := congrArg Addr.off hA9
              subst eb eo
              have hcu : w.rangeAt ba (oa + a * 4) (itV l[a]!) := hra a hlta
              have HMa := Lib.hid (show l[a]! ∈ l by rw [getElem!_pos l a (by rw [HL.out]; exact hlta)]; exact List.getElem_mem _)
              obtain ⟨itu, hitu⟩ : ∃ it, l[a]! = it := ⟨_, rfl⟩
              rw [hitu] at hcu HMa
              have HIu := Lib.hid hitu
              have u0 : wr.cell? ⟨ba, oa + a * 4, none⟩ = some (.int .i64 itu.x) := (BR.out.cell (p := ⟨ba, oa + a * 4, none⟩) hba).trans (hcu 0 _ rfl)
              have u1 : wr.cell? ⟨ba, oa + a * 4 + 1, none⟩ = some (.int .i64 itu.y) := (BR.out.cell (p := ⟨ba, oa + a * 4 + 1, none⟩) hba).trans (hcu 1 _ rfl)
              have u2 : wr.cell? ⟨ba, oa + a * 4 + 2, none⟩ = some (.int .i64 itu.w) := (BR.out.cell (p := ⟨ba, oa + a * 4 + 2, none⟩) hba).trans (hcu 2 _ rfl)
              have u3 : wr.cell? ⟨ba, oa + a * 4 + 3, none⟩ = some (.int .i64 itu.h) := (BR.out.cell (p := ⟨ba, oa + a * 4 + 3, none⟩) hba).trans (hcu 3 _ rfl)
              obtain ⟨ux, uy, uw, uh⟩ := itu
              dsimp only at u0 u1 u2 u3
              obtain ⟨W1, hW1⟩ : ∃ W1, wr.alloc (.cells #[.int .i64 ux, .int .i64 uy, .int .i64 uw, .int .i64 uh] 31) = W1 := ⟨_, rfl⟩
              have g1 : W1.heap[wr.heap.size]? = some (.cells #[.int .i64 ux, .int .i64 uy, .int .i64 uw, .int .i64 uh] 31 (0, 0)) := by rw [← hW1]; exact heap_alloc_new wr _
              have hb1 : Below wc.heap.size wc W1 := by rw [← hW1]; exact hba2.alloc hba2.size _
              have v0 := cell_of_row _ _ 0 _ 31 (0, 0) g1
              have v1 := cell_of_row _ _ 1 _ 31 (0, 0) g1
              have qg := (hb1.block _ hBlt).trans GB.out
              have q0 := cell_of_row W1 _ 0 _ 23 (0, 0) qg
              have q1 := cell_of_row W1 _ 1 _ 23 (0, 0) qg
              have q2 := cell_of_row W1 _ 2 _ 23 (0, 0) qg
              have q3 := cell_of_row W1 _ 3 _ 23 (0, 0) qg
              have HIn := Lib.hid (Inside_any ⟨b1, b2, b3, b4⟩ ux uy W1)
              obtain ⟨r, hrr⟩ : ∃ r, insB ⟨b1, b2, b3, b4⟩ ux uy = r := ⟨_, rfl⟩
              rw [hrr] at HIn
              have HRr := Lib.hid hrr
              have HB1 := Lib.hid hb1
              clear hcu hra hitu hrr hb1 g1 qg hba2
              cases r with
              | true =>
                have HNo := Lib.hid (show ¬ P from fun hp => by
                  have h1 := HP.out.1 hp i hlt (by show 0 ≤ sp[i]!; rw [HSp.out]; omega)
                  have h2 := h1.1 _ HMa.out
                  simp only at h2
                  rw [HSp.out, HIt.out, Int.toNat_natCast, HBX.out, HRr.out] at h2
                  cases h2)
                go_wp2_with (go_at_call 7; go_loud (refine HIn.out.mono ?_; rintro e w3 ⟨rfl, hb3⟩))
                go_ret
                exact FitP.no HNo.out ((BC.out.trans (HB1.out.mono hzc)).trans (hb3.mono (Nat.le_trans hzc HB1.out.size)))
              | false =>
                have HY2 := Lib.hid (show ∀ y, y < a + 1 → insB ⟨b1, b2, b3, b4⟩ (l[y]!).x (l[y]!).y = false from fun y hy => by
                  by_cases e : y = a
                  · subst e; rw [HIu.out]; exact HRr.out
                  · exact HY.out y (by omega))
                go_wp2_with (go_at_call 7; go_loud (refine HIn.out.mono ?_; rintro e w3 ⟨rfl, hb3⟩))
                go_roundw
                case rel => exact ⟨a + 1, by omega, by go_num, HY2, HB1.out.trans (hb3.mono HB1.out.size)⟩
                case measure => simp [intOf]; omega
            · obtain rfl : a = n := by omega
              have hil : (i : Int) ≤ (cl : Int) := by omega
              have HR2 := Lib.hid hba2
              clear hba2
              go_wp2_with fail
              have RD := HR2
              go_loopw [10, 11, 12, 13, 14, 50] (fun _ _ _ _ _ t50 wk => ∃ k : Nat, k ≤ i ∧ t50 = .int .i64 (k : Int) ∧ Hid (∀ k', k' < k → 0 ≤ sp[k']! → ∀ x y, insB ⟨b1, b2, b3, b4⟩ x y = true → insB (boxS l[k']! (sp[k']!).toNat) x y = false) ∧ Below wc.heap.size wc wk) (fun _ _ _ _ _ t50 _ => i - (intOf t50).toNat)
              case atStart => exact ⟨0, by omega, rfl, Lib.hid (fun y h => absurd h (by omega)), HR2.out⟩
              case round =>
                obtain ⟨k, hk, rfl, HK, hbk⟩ := hrel
                have BR := Lib.hid (BC.out.trans (hbk.mono hzc))
                have hzk := hbk.size
                by_cases hltk : k < i
                · have hk0 : (0 : Int) ≤ (k : Int) := by omega
                  have hki : (k : Int) < (i : Int) := by omega
                  have hkn : (k : Int) < (a : Int) := by omega
                  obtain ⟨ba', oa', hAe, hba', hra⟩ := HA.out (by omega)
                  have hA9 := Option.some.inj hAe
                  have eb : ba = ba' := congrArg Addr.block hA9
                  have eo : oa = oa' := congrArg Addr.off hA9
                  subst eb eo
                  obtain ⟨bs', os', hSe, hbs', hrs⟩ := HS.out (by omega)
                  have hS9 := Option.some.inj hSe
                  have fb : bs = bs' := congrArg Addr.block hS9
                  have fo : os = os' := congrArg Addr.off hS9
                  subst fb fo
                  have hcu : w.rangeAt ba (oa + k * 4) (itV l[k]!) := hra k (by omega)
                  have hcs : w.rangeAt bs (os + k * 1) (intV1 sp[k]!) := hrs k (by omega)
                  have HMk := Lib.hid (show l[k]! ∈ l by rw [getElem!_pos l k (by rw [HL.out]; omega)]; exact List.getElem_mem _)
                  have hsk := HR.out k (by omega)
                  obtain ⟨itk, hitk⟩ : ∃ it, l[k]! = it := ⟨_, rfl⟩
                  obtain ⟨s2, hs2⟩ : ∃ s, sp[k]! = s := ⟨_, rfl⟩
                  rw [hitk] at hcu HMk
                  rw [hs2] at hcs hsk
                  have HItk := Lib.hid hitk
                  have HSpk := Lib.hid hs2
                  have u0 : wr.cell? ⟨ba, oa + k * 4, none⟩ = some (.int .i64 itk.x) := (BR.out.cell (p := ⟨ba, oa + k * 4, none⟩) hba).trans (hcu 0 _ rfl)
                  have u1 : wr.cell? ⟨ba, oa + k * 4 + 1, none⟩ = some (.int .i64 itk.y) := (BR.out.cell (p := ⟨ba, oa + k * 4 + 1, none⟩) hba).trans (hcu 1 _ rfl)
                  have u2 : wr.cell? ⟨ba, oa + k * 4 + 2, none⟩ = some (.int .i64 itk.w) := (BR.out.cell (p := ⟨ba, oa + k * 4 + 2, none⟩) hba).trans (hcu 2 _ rfl)
                  have u3 : wr.cell? ⟨ba, oa + k * 4 + 3, none⟩ = some (.int .i64 itk.h) := (BR.out.cell (p := ⟨ba, oa + k * 4 + 3, none⟩) hba).trans (hcu 3 _ rfl)
                  obtain ⟨W2, hW2⟩ : ∃ W2, wr.alloc (.cells #[.int .i64 itk.x, .int .i64 itk.y, .int .i64 itk.w, .int .i64 itk.h] 31) = W2 := ⟨_, rfl⟩
                  have g2 : W2.heap[wr.heap.size]? = some (.cells #[.int .i64 itk.x, .int .i64 itk.y, .int .i64 itk.w, .int .i64 itk.h] 31 (0, 0)) := by rw [← hW2]; exact heap_alloc_new wr _
                  have hlt2 : wr.heap.size < W2.heap.size := (Array.getElem?_eq_some_iff.1 g2).1
                  have hb2 : Below wc.heap.size wc W2 := by rw [← hW2]; exact hbk.alloc hbk.size _
                  have HB2 := Lib.hid hb2
                  have BW2 := Lib.hid (BC.out.trans (hb2.mono hzc))
                  have v0 := cell_of_row _ _ 0 _ 31 (0, 0) g2
                  have v1 := cell_of_row _ _ 1 _ 31 (0, 0) g2
                  have v2 := cell_of_row _ _ 2 _ 31 (0, 0) g2
                  have v3 := cell_of_row _ _ 3 _ 31 (0, 0) g2
                  have t0 : W2.cell? ⟨bs, os + k, none⟩ = some (.int .i64 s2) := by
                    have := (BW2.out.cell (p := ⟨bs, os + k * 1, none⟩) hbs).trans (hcs 0 _ rfl)
                    simpa using this
                  have hz2 := hb2.size
                  clear hcu hcs hra hrs hitk hs2 hbk hb2 g2
                  by_cases hs20 : s2 < 0
                  · have HK2 := Lib.hid (show ∀ k', k' < k + 1 → 0 ≤ sp[k']! → ∀ x y, insB ⟨b1, b2, b3, b4⟩ x y = true → insB (boxS l[k']! (sp[k']!).toNat) x y = false from fun k' h h0 => by
                      by_cases e : k' = k
                      · subst e; rw [HSpk.out] at h0; omega
                      · exact HK.out k' (by omega) h0)
                    go_wp2_with fail
                    go_roundw
                    case rel => exact ⟨k + 1, by omega, by go_num, HK2, HB2.out⟩
                    case measure => simp [intOf]; omega
                  · obtain ⟨sm, hsm⟩ : ∃ sm : Nat, s2 = (sm : Int) := ⟨s2.toNat, by omega⟩
                    subst hsm
                    have hsm8 : sm < 8 := by omega
                    have HBox2 := Lib.hid (fun W => LabelBox_any itk sm hsm8 W)
                    obtain ⟨c, hc⟩ : ∃ c, boxS itk sm = c := ⟨_, rfl⟩
                    rw [hc] at HBox2
                    have HCX := Lib.hid hc
                    obtain ⟨d1, d2, d3, d4⟩ := c
                    dsimp only at HBox2
                    clear hc
                    obtain ⟨gk, hgk⟩ : ∃ gk, wr.heap.size = gk := ⟨_, rfl⟩
                    rw [hgk] at v0 v1 v2 v3 hlt2
                    have hsW2 := Nat.lt_of_lt_of_le hbs BW2.out.size
                    have hS6 : ∀ W, Below W2.heap.size W2 W → Below W2.heap.size W2 W ∧ W.cell? ⟨gk, 0, none⟩ = some (.int .i64 itk.x) ∧ W.cell? ⟨gk, 1, none⟩ = some (.int .i64 itk.y) ∧ W.cell? ⟨gk, 2, none⟩ = some (.int .i64 itk.w) ∧ W.cell? ⟨gk, 3, none⟩ = some (.int .i64 itk.h) ∧ W.cell? ⟨bs, os + k, none⟩ = some (.int .i64 (sm : Int)) := fun W hW =>
                      ⟨hW, (hW.cell (p := ⟨gk, 0, none⟩) hlt2).trans v0, (hW.cell (p := ⟨gk, 1, none⟩) hlt2).trans v1, (hW.cell (p := ⟨gk, 2, none⟩) hlt2).trans v2, (hW.cell (p := ⟨gk, 3, none⟩) hlt2).trans v3, (hW.cell (p := ⟨bs, os + k, none⟩) hsW2).trans t0⟩
                    have HS6 := Lib.hid hS6
                    have hs6 := hS6 _ (Below.refl W2.heap.size W2).drew
                    go_upto_region 16 with fail
                    go_cut [12, 50] from 51 to 92 (fun s12 s50 wx => s50 = .int .i64 (k : Int) ∧ ∃ C, s12 = .pointer (some ⟨C, 0, none⟩) ∧ wx.heap[C]? = some (.cells #[.int .i64 d1, .int .i64 d2, .int .i64 d3, .int .i64 d4] 23 (0, 0)) ∧ Below W2.heap.size W2 wx ∧ W2.heap.size ≤ C)
                    case first =>
                      clear hS6 u0 u1 u2 u3 v0 v1 v2 v3 t0
                      go_region_held3 (fun W => Below W2.heap.size W2 W ∧ W.cell? ⟨gk, 0, none⟩ = some (.int .i64 itk.x) ∧ W.cell? ⟨gk, 1, none⟩ = some (.int .i64 itk.y) ∧ W.cell? ⟨gk, 2, none⟩ = some (.int .i64 itk.w) ∧ W.cell? ⟨gk, 3, none⟩ = some (.int .i64 itk.h) ∧ W.cell? ⟨bs, os + k, none⟩ = some (.int .i64 (sm : Int))) (first | assumption | exact HS6.out _ (bs_alloc _ (by assumption)) | exact HS6.out _ (BW.out.2.alloc BW.out.2.size _) | exact HS6.out _ (bs_below (by assumption) (by assumption)) | exact HS6.out _ (bs_set4 (Nat.le_refl _) _ _ _ _ (by assumption))) (first
                        | (go_at_call 22; go_loud (refine (HBox2.out _).mono ?_; rintro e w2 ⟨rfl, hb2⟩; have BW := Lib.hid (And.intro trivial (bs_below hb2 (by assumption))); try (have gz := (hb2.block W2.heap.size (by simp)).trans (heap_alloc_new W2 (.cells #[.int .i64 0, .int .i64 0, .int .i64 0, .int .i64 0] 23)); have z0 := cell_of_row w2 _ 0 _ 23 (0, 0) gz; have z1 := cell_of_row w2 _ 1 _ 23 (0, 0) gz; have z2 := cell_of_row w2 _ 2 _ 23 (0, 0) gz; have z3 := cell_of_row w2 _ 3 _ 23 (0, 0) gz; have y0 := frozen_of_row w2 W2.heap.size 0 _ 23 gz; have y1 := frozen_of_row w2 W2.heap.size 1 _ 23 gz; have y2 := frozen_of_row w2 W2.heap.size 2 _ 23 gz; have y3 := frozen_of_row w2 W2.heap.size 3 _ 23 gz; have GZ := Lib.hid gz; clear gz))))
                      all_goals
                        go_wp2_with fail
                        go_meet
                        case rel =>
                          refine ⟨rfl, _, rfl, ?_, bs_left (by assumption), ?_⟩
                          · first
                              | exact heap_alloc_new _ _
                              | exact heap_setCell_same _ _ 3 _ 23 _ (heap_setCell_same _ _ 2 _ 23 _ (heap_setCell_same _ _ 1 _ 23 _ (heap_setCell_same _ _ 0 _ 23 _ GZ.out)))
                          · first
                              | exact BW.out.2.size
                              | exact Nat.le_refl _
                    case rest =>
                      obtain ⟨rfl, C, rfl, hgC, hbC, hWC⟩ := hcut
                      have hClt : C < wc.heap.size := (Array.getElem?_eq_some_iff.1 hgC).1
                      have GC := Lib.hid hgC
                      have BX := Lib.hid (HB2.out.trans (hbC.mono hz2))
                      have BY := Lib.hid (BC.out.trans (BX.out.mono hzc))
                      have hgB2 := (BX.out.block _ hBlt).trans GB.out
                      have GB2 := Lib.hid hgB2
                      have hBlt2 : B < wc.heap.size := (Array.getElem?_eq_some_iff.1 hgB2).1
                      have RX := Lib.hid (Below.refl wc.heap.size wc)
                      have hzx := BX.out.size
                      obtain ⟨o1, o2, o3, o4, o5, o6, o7, o8⟩ := HbD.out
                      dsimp only at o1 o2 o3 o4 o5 o6 o7 o8
                      have m2 : IntKind.i64.wrap (b2 + b4) = b2 + b4 := IntWalk.i64_in _ (by omega)
                      have m1 : IntKind.i64.wrap (b1 + b3) = b1 + b3 := IntWalk.i64_in _ (by omega)
                      have x0 := cell_of_row _ _ 0 _ 23 (0, 0) hgB2
                      have x1 := cell_of_row _ _ 1 _ 23 (0, 0) hgB2
                      have x2 := cell_of_row _ _ 2 _ 23 (0, 0) hgB2
                      have x3 := cell_of_row _ _ 3 _ 23 (0, 0) hgB2
                      clear hgC hbC hgB2 hS6 hs6 u0 u1 u2 u3 v0 v1 v2 v3 t0
                      go_wp2_with fail
                      go_loopw [13, 14] (fun t13 _ wk => ∃ Y : Int, t13 = .int .i64 Y ∧ b2 ≤ Y ∧ Y ≤ b2 + b4 ∧ Hid (∀ x y, b2 ≤ y → y < Y → b1 ≤ x → x < b1 + b3 → insB ⟨d1, d2, d3, d4⟩ x y = false) ∧ Below wc.heap.size wc wk) (fun t13 _ _ => (b2 + b4 - intOf t13).toNat)
                      case atStart => exact ⟨b2, rfl, Int.le_refl _, by omega, Lib.hid (fun x y h1 h2 => absurd h1 (by omega)), RX.out⟩
                      case round =>
                        obtain ⟨Y, rfl, hY1, hY2, HYs, hby⟩ := hrel
                        have hgy := (hby.block _ hBlt2).trans GB2.out
                        have y0 := cell_of_row _ _ 0 _ 23 (0, 0) hgy
                        have y1 := cell_of_row _ _ 1 _ 23 (0, 0) hgy
                        have y2 := cell_of_row _ _ 2 _ 23 (0, 0) hgy
                        have y3 := cell_of_row _ _ 3 _ 23 (0, 0) hgy
                        have HBy := Lib.hid hby
                        have hzy := hby.size
                        clear hby hgy x0 x1 x2 x3
                        by_cases hYl : Y < b2 + b4
                        · have mY : IntKind.i64.wrap (Y + 1) = Y + 1 := IntWalk.i64_in _ (by omega)
                          go_wp2_with fail
                          go_loopw [14] (fun t14 wk => ∃ X : Int, t14 = .int .i64 X ∧ b1 ≤ X ∧ X ≤ b1 + b3 ∧ Hid (∀ x, b1 ≤ x → x < X → insB ⟨d1, d2, d3, d4⟩ x Y = false) ∧ Below wc.heap.size wc wk) (fun t14 _ => (b1 + b3 - intOf t14).toNat)
                          case atStart => exact ⟨b1, rfl, Int.le_refl _, by omega, Lib.hid (fun x h1 h2 => absurd h1 (by omega)), HBy.out⟩
                          case round =>
                            obtain ⟨X, rfl, hX1, hX2, HXs, hbx2⟩ := hrel
                            have hgx := (hbx2.block _ hBlt2).trans GB2.out
                            have hgc := (hbx2.block _ hClt).trans GC.out
                            have p0 := cell_of_row _ _ 0 _ 23 (0, 0) hgx
                            have p2 := cell_of_row _ _ 2 _ 23 (0, 0) hgx
                            have q0 := cell_of_row _ _ 0 _ 23 (0, 0) hgc
                            have q1 := cell_of_row _ _ 1 _ 23 (0, 0) hgc
                            have q2 := cell_of_row _ _ 2 _ 23 (0, 0) hgc
                            have q3 := cell_of_row _ _ 3 _ 23 (0, 0) hgc
                            have HBx2 := Lib.hid hbx2
                            have hzx2 := hbx2.size
                            clear hbx2 hgx hgc y0 y1 y2 y3
                            by_cases hXl : X < b1 + b3
                            · have mX : IntKind.i64.wrap (X + 1) = X + 1 := IntWalk.i64_in _ (by omega)
                              have HIn := Lib.hid (fun W => Inside_any ⟨d1, d2, d3, d4⟩ X Y W)
                              obtain ⟨r, hrr⟩ : ∃ r, insB ⟨d1, d2, d3, d4⟩ X Y = r := ⟨_, rfl⟩
                              rw [hrr] at HIn
                              have HRr := Lib.hid hrr
                              clear hrr
                              cases r with
                              | true =>
                                have HNo := Lib.hid (show ¬ P from fun hp => by
                                  have h1 := HP.out.1 hp i hlt (by show 0 ≤ sp[i]!; rw [HSp.out]; omega)
                                  have h2 := h1.2 k hltk (by show 0 ≤ sp[k]!; rw [HSpk.out]; omega) X Y
                                  simp only at h2
                                  rw [HSp.out, HSpk.out, HIt.out, HItk.out, Int.toNat_natCast, Int.toNat_natCast, HBX.out, HCX.out] at h2
                                  rw [h2 ((insB_iff HbD.out).2 ⟨⟨hX1, hXl⟩, hY1, hYl⟩)] at HRr
                                  cases HRr.out)
                                go_wp2_with (go_at_call 7; go_loud (refine (HIn.out _).mono ?_; rintro e w3 ⟨rfl, hb3⟩))
                                go_ret
                                exact FitP.no HNo.out ((BY.out.trans (HBx2.out.mono (by omega))).trans (hb3.mono (by omega)))
                              | false =>
                                have HX2 := Lib.hid (show ∀ x, b1 ≤ x → x < X + 1 → insB ⟨d1, d2, d3, d4⟩ x Y = false from fun x h1 h2 => by
                                  by_cases e : x = X
                                  · subst e; exact HRr.out
                                  · exact HXs.out x h1 (by omega))
                                go_wp2_with (go_at_call 7; go_loud (refine (HIn.out _).mono ?_; rintro e w3 ⟨rfl, hb3⟩))
                                go_roundw
                                case rel => exact ⟨X + 1, rfl, by omega, by omega, HX2, HBx2.out.trans (hb3.mono hzx2)⟩
                                case measure => simp [intOf]; omega
                            · obtain rfl : X = b1 + b3 := by omega
                              have HY2 := Lib.hid (show ∀ x y, b2 ≤ y → y < Y + 1 → b1 ≤ x → x < b1 + b3 → insB ⟨d1, d2, d3, d4⟩ x y = false from fun x y h1 h2 h3 h4 => by
                                by_cases e : y = Y
                                · subst e; exact HXs.out x h3 h4
                                · exact HYs.out x y h1 (by omega) h3 h4)
                              go_wp2_with fail
                              go_roundw
                              case rel => exact ⟨Y + 1, rfl, by omega, by omega, HY2, HBx2.out⟩
                              case measure => simp [intOf]; omega
                        · obtain rfl : Y = b2 + b4 := by omega
                          have HK2 := Lib.hid (show ∀ k', k' < k + 1 → 0 ≤ sp[k']! → ∀ x y, insB ⟨b1, b2, b3, b4⟩ x y = true → insB (boxS l[k']! (sp[k']!).toNat) x y = false from fun k' h h0 x y hxy => by
                            by_cases e : k' = k
                            · subst e
                              rw [HSpk.out, Int.toNat_natCast, HItk.out, HCX.out]
                              obtain ⟨⟨r1, r2⟩, r3, r4⟩ := (insB_iff HbD.out).1 hxy
                              exact HYs.out x y r3 r4 r1 r2
                            · exact HK.out k' (by omega) h0 x y hxy)
                          have HBz := Lib.hid (BX.out.trans (HBy.out.mono hzx))
                          go_wp2_with fail
                          go_roundw
                          case rel => exact ⟨k + 1, by omega, by go_num, HK2, HBz.out⟩
                          case measure => simp [intOf]; omega
                · obtain rfl : k = i := by omega
                  have HF2 := Lib.hid (show ∀ i', i' < k + 1 → FitAt l (fun i => sp[i]!) i' from fun i' h => by
                    by_cases e : i' = k
                    · subst e
                      intro _
                      show (∀ y ∈ l, insB (boxS l[i']! (sp[i']!).toNat) y.x y.y = false) ∧ ∀ k, k < i' → 0 ≤ sp[k]! → ∀ x y, insB (boxS l[i']! (sp[i']!).toNat) x y = true → insB (boxS l[k]! (sp[k]!).toNat) x y = false
                      rw [HSp.out, Int.toNat_natCast, HIt.out, HBX.out]
                      refine ⟨fun y hy => ?_, HK.out⟩
                      obtain ⟨m, hm, rfl⟩ := List.mem_iff_getElem.1 hy
                      have := HY.out m (by rw [← HL.out]; exact hm)
                      rw [getElem!_pos l m hm] at this
                      exact this
                    · exact HF.out i' (by omega))
                  have HBz := Lib.hid (BC.out.trans (hbk.mono hzc))
                  clear hbk
                  go_wp2_with fail
                  go_roundw
                  case rel => exact ⟨k + 1, by omega, by go_num, HF2, HBz.out⟩
                  case measure => simp [intOf]; omega
    · obtain rfl : i = n := by omega
      have HB := Lib.hid hbr
      clear hbr
      go_wp2_with fail
      go_ret
      exact FitP.yes (HP.out.2 HF.out) HB.out
end Go.Proofs.Ytpnihjomemojlaa
