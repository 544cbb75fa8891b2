/- Package snapshot: Diff of two sound states. -/
import Derived.Test.YtojnojjiblcmcaaDoorD3
import Derived.Test.YtojnojjiblcmcaaDoorR4
import Derived.Test.YtojnojjiblcmcaaDoorConRw
import Derived.Test.YtojnojjiblcmcaaDoorConCh
import Derived.Deep.CutRange
namespace Go.Proofs.YtojnojjiblcmcaaDoor
open Go.RowKit

def chV (x : Ch) : List Value := [.string x.key, .bool x.had, .bool x.has, .string x.old, .string x.new]
def diffC (a b : List Rw) : Int := if checkL a ≠ 0 then checkL a else checkL b
def diffR (a b : List Rw) : List Ch := if diffC a b = 0 then diffL (keysD a b) a b else []
def DiffP (a b : List Rw) (w : World) (e : Ending) (w' : World) : Prop :=
  ∃ A c, e = .returned (.tuple #[.slice A (diffR a b).length c, .int .i64 (diffC a b)]) ∧ w'.ownsRow w.heap.size 49 5 (.slice A (diffR a b).length c) (diffR a b).length (rowsV chV (diffR a b)) ∧ Below w.heap.size w w'

set_option maxRecDepth 100000 in
set_option maxHeartbeats 4000000 in
theorem Diff_fine (A B : Option Addr) (n p c d : Nat) (a b : List Rw) (w : World) (ha : StAt a A n w) (hb : StAt b B p w) (h0 : checkL a = 0) (h1 : checkL b = 0) :
    Calls Tryd.prog 19 #[.slice A n c, .slice B p d] w (DiffP a b w) := by
  have hfa := fine_of h0
  have hfb := fine_of h1
  have hn := hfa.len
  have hp := hfb.len
  rw [ha.len] at hn
  rw [hb.len] at hp
  have HCa := Lib.hid (fun W (hW : Below w.heap.size w W) => Check_any A n c a W (ha.below hW).sl ha.len ha.z ha.le)
  have HCb := Lib.hid (fun W (hW : Below w.heap.size w W) => Check_any B p d b W (hb.below hW).sl hb.len hb.z hb.le)
  unfold CheckP at HCa HCb
  rw [h0] at HCa
  rw [h1] at HCb
  have HA := Lib.hid ha
  have HB := Lib.hid hb
  have HFa := Lib.hid hfa
  have HFb := Lib.hid hfb
  have HD0 := Lib.hid (show diffC a b = 0 by unfold diffC; rw [if_neg (fun h => h h0)]; exact h1)
  have HIa := Lib.hid (fun (W : World) (hW : Below w.heap.size w W) => find_any A n c a W (ha.below hW).sl ha.len (by omega) hfa.sorted)
  have HIb := Lib.hid (fun (W : World) (hW : Below w.heap.size w W) => find_any B p d b W (hb.below hW).sl hb.len (by omega) hfb.sorted)
  have hnew := heap_alloc_new w (.cells #[.slice A n c, .slice B p d] 22)
  have hbn : Below w.heap.size w (w.alloc (.cells #[.slice A n c, .slice B p d] 22)) := (Below.refl _ _).alloc (Nat.le_refl _) _
  obtain ⟨W0, hW0⟩ : ∃ W0, w.alloc (.cells #[.slice A n c, .slice B p d] 22) = W0 := ⟨_, rfl⟩
  rw [hW0] at hnew hbn
  have hlt0 : w.heap.size < W0.heap.size := (Array.getElem?_eq_some_iff.1 hnew).1
  have HNew := Lib.hid hnew
  have HBn := Lib.hid hbn
  have k0 := cell_of_row _ _ 0 _ _ _ hnew
  have k1 := cell_of_row _ _ 1 _ _ _ hnew
  have K0 := Lib.hid k0
  have K1 := Lib.hid k1
  clear ha hb h0 h1 hfa hfb hnew hbn k0 k1
  go_enter Tryd.func19, Tryd.ntmps19
  go_wp2_with fail
  go_loopw [7, 8, 24] (fun _ _ i wr => ∃ j : Nat, j ≤ 2 ∧ i = .int .i64 (j : Int) ∧ Below W0.heap.size W0 wr) (fun _ _ i _ => 2 - (intOf i).toNat)
  case atStart => exact ⟨0, by omega, rfl, Below.refl _ _⟩
  case round =>
    obtain ⟨j, hj, rfl, hbr⟩ := hrel
    have hbw := HBn.out.trans (hbr.mono HBn.out.size)
    have HBw := Lib.hid hbw
    by_cases hlt : j < 2
    · rcases (show j = 0 ∨ j = 1 by omega) with rfl | rfl
      · have c0 := (hbr.cell (p := ⟨w.heap.size, 0, none⟩) hlt0).trans K0.out
        go_wp2_with (go_at_call 16; go_loud (refine (HCa.out _ HBw.out).mono ?_; rintro e w2 ⟨rfl, hb2⟩))
        go_roundw
        case rel => exact ⟨1, by omega, by go_num, hbr.trans (hb2.mono hbr.size)⟩
        case measure => simp [intOf]
      · have c0 := (hbr.cell (p := ⟨w.heap.size, 1, none⟩) hlt0).trans K1.out
        go_wp2_with (go_at_call 16; go_loud (refine (HCb.out _ HBw.out).mono ?_; rintro e w2 ⟨rfl, hb2⟩))
        go_roundw
        case rel => exact ⟨2, by omega, by go_num, hbr.trans (hb2.mono hbr.size)⟩
        case measure => simp [intOf]
    · obtain rfl : j = 2 := by omega
      clear hbw
      have hbw := HBw.out
      have hnew2 := heap_alloc_new wr (.cells #[.slice A n c, .slice B p d] 22)
      have hbx : Below wr.heap.size wr (wr.alloc (.cells #[.slice A n c, .slice B p d] 22)) := (Below.refl _ _).alloc (Nat.le_refl _) _
      have hbx2 := hbw.trans (hbx.mono hbw.size)
      have HCon := Lib.hid (ConcatRw_two wr.heap.size A B n p c d (fun i => rwV a[i]!) (fun i => rwV b[i]!) (wr.alloc (.cells #[.slice A n c, .slice B p d] 22)) hnew2 (HA.out.below hbx2).sl (HB.out.below hbx2).sl (fun _ _ => rfl) (fun _ _ => rfl)
        (fun u hu => by obtain ⟨i, _, hu⟩ := flatR_mem hu; exact rwV_one _ u hu) (fun u hu => by obtain ⟨i, _, hu⟩ := flatR_mem hu; exact rwV_one _ u hu) HA.out.nil HB.out.nil (by omega) (by omega))
      have HBx := Lib.hid hbx2
      clear hnew2 hbx hbx2
      go_wp2_with (go_at_call 37; go_loud (refine HCon.out.mono ?_; rintro e w3 ⟨A3, c3, rfl, ho3, hb3⟩))
      have hMl : (a ++ b).length = n + p := by rw [List.length_append, HA.out.len, HB.out.len]
      have hM : flatR (fun i => rwV a[i]!) n ++ flatR (fun i => rwV b[i]!) p = rws (a ++ b) := by
        rw [rws, rowsV_append, rowsV_flat rwV_len a, rowsV_flat rwV_len b, HA.out.len, HB.out.len]
      rw [hM] at ho3
      have HS3 := Lib.hid (Sl_rows rwV_len ho3 hMl (by decide))
      have HB3 := Lib.hid (HBx.out.trans (hb3.mono HBx.out.size))
      obtain ⟨M, hMM⟩ : ∃ M, a ++ b = M := ⟨_, rfl⟩
      rw [hMM] at HS3 hMl
      have HMM := Lib.hid hMM
      have HMl := Lib.hid hMl
      obtain ⟨N, hN⟩ : ∃ N, n + p = N := ⟨_, rfl⟩
      rw [hN] at HS3 HMl
      have hN1 : N ≤ 128 := by omega
      have HN := Lib.hid hN
      have hcN : ((n : Int) + (p : Int)) = (N : Int) := by omega
      obtain ⟨i0, J0, J1, J2, J3⟩ := info_parts str_info9
      have HR3 := Lib.hid (Below.refl w3.heap.size w3)
      clear ho3 hb3 hM hMM hMl hN
      go_loopw [9, 11, 39] (fun t9 _ i wr => ∃ (j : Nat) (Ak : Option Addr) (ck : Nat), j ≤ N ∧ i = .int .i64 (j : Int) ∧ t9 = .slice Ak j ck ∧ Hid (wr.ownsRow w3.heap.size 9 1 (.slice Ak j ck) j (strsK ((M.map key1).take j))) ∧ Below w3.heap.size w3 wr) (fun _ _ i _ => N - (intOf i).toNat)
      case atStart => exact ⟨0, none, 0, by omega, rfl, rfl, Lib.hid (World.ownsRow_nil _ _ _ _), HR3.out⟩
      case round =>
        obtain ⟨j, Ak, ck, hj, rfl, rfl, HO, hbv⟩ := hrel
        by_cases hlt2 : j < N
        · have hj0 : (0 : Int) ≤ (j : Int) := by omega
          have hjN : (j : Int) < (N : Int) := by omega
          obtain ⟨b2, o2, rfl, hb2, hr⟩ := HS3.out (by omega)
          have q0 : w3.cell? ⟨b2, o2 + j * 2, none⟩ = some (.string (M[j]!).1) := hr j hlt2 0 _ rfl
          have q1 : w3.cell? ⟨b2, o2 + j * 2 + 1, none⟩ = some (.string (M[j]!).2) := hr j hlt2 1 _ rfl
          have p0 := (hbv.cell (p := ⟨b2, o2 + j * 2, none⟩) hb2).trans q0
          have p1 := (hbv.cell (p := ⟨b2, o2 + j * 2 + 1, none⟩) hb2).trans q1
          have HRow := Lib.hid (show strsK ((M.map key1).take j) ++ (#[Value.string (M[j]!).1] : Array Value).toList = strsK ((M.map key1).take (j + 1)) from by
            have hjl : j < (M.map key1).length := by rw [List.length_map, HMl.out]; exact hlt2
            rw [List.take_succ_eq_append_getElem hjl, strsK, strsK, rowsV_snoc, List.getElem_map, getElem!_pos M j (by rw [HMl.out]; exact hlt2)]
            rfl)
          obtain ⟨x, hx⟩ : ∃ x, M[j]! = x := ⟨_, rfl⟩
          rw [hx] at p0 p1 HRow
          obtain ⟨xk, xv⟩ := x
          simp only at p0 p1 HRow
          have hbx3 : Below w3.heap.size w3 (wr.alloc (.cells #[.string xk, .string xv] 39)) := hbv.alloc hbv.size _
          have HBx3 := Lib.hid hbx3
          clear hr q0 q1 hx hbx3
          go_wp2_with (at_builtin; go_loud (refine wpList_append_oneN (wr.alloc (.cells #[.string xk, .string xv] 39)) (wr.heap.size + 1) (by simp) #[.string xk] rfl (.tmp 43) (.tmp 46) 64 rfl w3.heap.size 9 i0 (.string ByteArray.empty) 1 16 Tryd.underlying64 J0 J1 J2 J3 rfl (by decide) (.slice Ak j ck) j _ rfl (HO.out.alloc _) rfl rfl (by simp [Value.oneCell']) (by omega) (by decide) HBx3.out.size ?_; intro g3 cap3 w6 hv6 hg6 hat6 hlt6))
          have hv7 := hv6
          rw [HRow.out] at hv7
          have hb6 : Below w3.heap.size w3 w6 := below_app HBx3.out HBx3.out.size (HO.out.alloc _) (Nat.le_refl _) hg6
          go_roundw
          case rel =>
            refine ⟨_, _, _, ⟨j + 1, by omega, ?_, _, _, rfl, Lib.hid hv7, hb6⟩, rfl, rfl, rfl⟩
            go_num
          case measure => simp [intOf]; omega
        · obtain rfl : N = j := by omega
          have hml1 : (M.map key1).length = N := by rw [List.length_map, HMl.out]
          have hO1 := HO.out
          rw [List.take_of_length_le (Nat.le_of_eq hml1)] at hO1
          have hKD : ddN (fun i => (sortS (M.map key1))[i]!) N = keysD a b := by
            unfold keysD keysL
            rw [sortS_len, ← List.map_append, HMM.out, hml1]
          have HSo := Lib.hid (SortS_any w3.heap.size N ck Ak (M.map key1) wr hO1 hml1 hbv.size (by omega))
          have HCo := Lib.hid (fun (W : World) (h : W.ownsRow w3.heap.size 9 1 (.slice Ak N ck) N (strsK (sortS (M.map key1)))) (hle : w3.heap.size ≤ W.heap.size) => CompactS_any w3.heap.size N ck Ak (sortS (M.map key1)) W h (by rw [sortS_len]; exact hml1) hle (by omega))
          have hql : (keysD a b).length ≤ N := by rw [← hKD]; exact ddN_len _ N
          obtain ⟨ks, hks⟩ : ∃ ks, keysD a b = ks := ⟨_, rfl⟩
          rw [hks] at hql hKD
          have HKs := Lib.hid hks
          have HKD := Lib.hid hKD
          have HQl := Lib.hid hql
          have HBv := Lib.hid hbv
          have hz1 := hbv.size
          clear hO1 hml1 hKD hql hks hbv hlt2
          go_wp2_with (first
            | (go_at_call 38; go_loud (refine HSo.out.mono ?_; rintro e w4 ⟨rfl, ho4, hb4⟩; have HO4 := Lib.hid ho4; have hz2 := hb4.size; have HB4 := Lib.hid hb4; clear ho4 hb4))
            | (go_at_call 39; go_loud (refine (HCo.out _ HO4.out (by omega)).mono ?_; rintro e w5 ⟨A5, q, rfl, hq, ho5, hb5⟩; rw [HKD.out] at hq ho5; have HQ := Lib.hid hq; have HO5 := Lib.hid ho5; have HB5 := Lib.hid hb5; clear hq ho5 hb5)))
          have HS5 := Lib.hid (Sl_rows (k := 1) (fun _ => rfl) HO5.out HQ.out.symm (by decide))
          have hq1 : q ≤ 128 := by have := HQl.out; rw [← HQ.out] at this; omega
          have hz3 := HB5.out.size
          have HB35 := Lib.hid ((HBv.out.trans HB4.out).trans HB5.out)
          have HBw5 := Lib.hid (HB3.out.trans (HB35.out.mono HB3.out.size))
          have hz4 := HBw5.out.size
          have HR5 := Lib.hid (Below.refl w5.heap.size w5)
          obtain ⟨i49, E0, E1, E2, E3⟩ := info_parts ConCh_info
          clear HSo HCo HKD
          go_loopw [12, 14, 15, 16, 17, 18, 19, 54] (fun t12 _ _ _ _ _ _ i wr => ∃ (j m : Nat) (Ao : Option Addr) (co : Nat), j ≤ q ∧ i = .int .i64 (j : Int) ∧ t12 = .slice Ao m co ∧ m ≤ j ∧ Hid (m = (diffL (ks.take j) a b).length) ∧ Hid (wr.ownsRow w5.heap.size 49 5 (.slice Ao m co) m (rowsV chV (diffL (ks.take j) a b))) ∧ Below w5.heap.size w5 wr) (fun _ _ _ _ _ _ _ i _ => q - (intOf i).toNat)
          case atStart => exact ⟨0, 0, none, 0, by omega, rfl, rfl, Nat.le_refl _, Lib.hid rfl, Lib.hid (World.ownsRow_nil _ _ _ _), HR5.out⟩
          case round =>
            obtain ⟨j, m, Ao, co, hj, rfl, rfl, hmj, HLen, HOw, hbr⟩ := hrel
            by_cases hlt : j < q
            · have hj0 : (0 : Int) ≤ (j : Int) := by omega
              have hjq : (j : Int) < (q : Int) := by omega
              obtain ⟨b5, o5, hA5, hb5', hr5⟩ := HS5.out (by omega)
              subst hA5
              have q0 : w5.cell? ⟨b5, o5 + j, none⟩ = some (.string ks[j]!) := by
                have := hr5 j hlt 0 _ rfl
                simpa using this
              have hjl : j < ks.length := by rw [← HQ.out]; exact hlt
              obtain ⟨tk, htk⟩ : ∃ tk, ks[j]! = tk := ⟨_, rfl⟩
              have HT := Lib.hid (show ks.take (j + 1) = ks.take j ++ [tk] by rw [List.take_succ_eq_append_getElem hjl, ← htk, getElem!_pos ks j hjl])
              rw [htk] at q0
              have p0 := (hbr.cell (p := ⟨b5, o5 + j, none⟩) hb5').trans q0
              have HNew5 := Lib.hid (heap_alloc_new wr (.cells #[.string tk, .bool false, .bool false, .string ByteArray.empty, .string ByteArray.empty] 49))
              have hbn5 : Below wr.heap.size wr (wr.alloc (.cells #[.string tk, .bool false, .bool false, .string ByteArray.empty, .string ByteArray.empty] 49)) := (Below.refl _ _).alloc (Nat.le_refl _) _
              have HBn5 := Lib.hid hbn5
              have hz5 := hbr.size
              have HBwr := Lib.hid (HBw5.out.trans (hbr.mono HBw5.out.size))
              have HBnw := Lib.hid (HBwr.out.trans (hbn5.mono HBwr.out.size))
              have HBr := Lib.hid hbr
              clear hr5 q0 htk hbn5 hbr
              go_upto_if 66 with (go_at_call 27; go_loud (refine (HIa.out _ HBnw.out tk).mono ?_; rintro e w6 ⟨rfl, hb6⟩; have HB6' := Lib.hid hb6; clear hb6))
              have HB6 := Lib.hid (HBn5.out.trans (HB6'.out.mono (by simp)))
              have HG6 := Lib.hid ((HB6'.out.block _ (by simp)).trans HNew5.out)
              have hz6 : wr.heap.size + 1 ≤ w6.heap.size := by have := HB6'.out.size; simpa using this
              clear HB6' HNew5 HBn5 HBnw
              obtain ⟨gb, hgb⟩ : ∃ gb, wr.heap.size = gb := ⟨_, rfl⟩
              rw [hgb] at HB6 HG6 hz6 hz5 ⊢
              have HGb := Lib.hid hgb
              clear hgb
              go_cut [16, 17, 54] from 54 to 104 (fun _ _ s54 wx => s54 = .int .i64 (j : Int) ∧ wx.heap[gb]? = some (.cells #[.string tk, .bool (isK a tk), .bool false, .string (valK a tk), .string ByteArray.empty] 49 (0, 0)) ∧ Below gb wr wx ∧ gb + 1 ≤ wx.heap.size)
              case first =>
                cases hh : hasK key1 a tk with
                | false =>
                  have HI := Lib.hid (show isK a tk = false from (isK_has HFa.out.sorted tk).trans hh)
                  have HV := Lib.hid (show valK a tk = ByteArray.empty by unfold valK; rw [getK_eq HFa.out.sorted, hh]; rfl)
                  go_wp2
                  go_meet
                  case rel =>
                    rw [HI.out, HV.out]
                    exact ⟨rfl, HG6.out, HB6.out, hz6⟩
                | true =>
                  obtain ⟨hvl, hvk⟩ := hasK_at hh
                  have HI := Lib.hid (show isK a tk = true from (isK_has HFa.out.sorted tk).trans hh)
                  have hV : valK a tk = (a[lowK key1 a tk]!).2 := by unfold valK; rw [getK_eq HFa.out.sorted, hh]; rfl
                  obtain ⟨vi, hvi⟩ : ∃ vi, lowK key1 a tk = vi := ⟨_, rfl⟩
                  rw [hvi] at hvl hV ⊢
                  obtain ⟨vv, hvv⟩ : ∃ vv, (a[vi]!).2 = vv := ⟨_, rfl⟩
                  rw [hvv] at hV
                  have HV := Lib.hid hV
                  have hvn : vi < n := by rw [← HA.out.len]; exact hvl
                  obtain ⟨ba, oa, hAe, hba, hra⟩ := HA.out.sl (by omega)
                  have HAe := Lib.hid hAe
                  have q1 : w.cell? ⟨ba, oa + vi * 2 + 1, none⟩ = some (.string vv) := by rw [← hvv]; exact hra vi hvn 1 _ rfl
                  have hbg : ba < gb := by omega
                  have hcw : wr.cell? ⟨ba, oa + vi * 2 + 1, none⟩ = some (.string vv) := (HBwr.out.cell (p := ⟨ba, oa + vi * 2 + 1, none⟩) hba).trans q1
                  obtain ⟨Wa, hWa⟩ : ∃ Wa, w6.drew = Wa := ⟨_, rfl⟩
                  have ga : Wa.heap[gb]? = some (.cells #[.string tk, .bool false, .bool false, .string ByteArray.empty, .string ByteArray.empty] 49 (0, 0)) := by rw [← hWa]; exact HG6.out
                  have hbA : Below gb wr Wa := by rw [← hWa]; exact HB6.out.drew
                  obtain ⟨Wb, hWb⟩ : ∃ Wb, Wa.setCell ⟨gb, 1, none⟩ (.bool true) = Wb := ⟨_, rfl⟩
                  have gbb : Wb.heap[gb]? = some (.cells #[.string tk, .bool true, .bool false, .string ByteArray.empty, .string ByteArray.empty] 49 (0, 0)) := by rw [← hWb]; exact heap_setCell_same Wa gb 1 _ 49 _ ga
                  have hbB : Below gb wr Wb := by rw [← hWb]; exact hbA.setCell (p := ⟨gb, 1, none⟩) (Nat.le_refl _) _
                  obtain ⟨Wc, hWc⟩ : ∃ Wc, Wb.setCell ⟨gb, 3, none⟩ (.string vv) = Wc := ⟨_, rfl⟩
                  have gbc : Wc.heap[gb]? = some (.cells #[.string tk, .bool true, .bool false, .string vv, .string ByteArray.empty] 49 (0, 0)) := by rw [← hWc]; exact heap_setCell_same Wb gb 3 _ 49 _ gbb
                  have hbC : Below gb wr Wc := by rw [← hWc]; exact hbB.setCell (p := ⟨gb, 3, none⟩) (Nat.le_refl _) _
                  have ca : Wa.cell? ⟨ba, oa + vi * 2 + 1, none⟩ = some (.string vv) := (hbA.cell (p := ⟨ba, oa + vi * 2 + 1, none⟩) hbg).trans hcw
                  have cb : Wb.cell? ⟨ba, oa + vi * 2 + 1, none⟩ = some (.string vv) := (hbB.cell (p := ⟨ba, oa + vi * 2 + 1, none⟩) hbg).trans hcw
                  have u1 := cell_of_row Wa gb 1 _ 49 (0, 0) ga
                  have u3 := cell_of_row Wb gb 3 _ 49 (0, 0) gbb
                  have f1 := frozen_of_row Wa gb 1 _ 49 ga
                  have f3 := frozen_of_row Wb gb 3 _ 49 gbb
                  have hzc : gb + 1 ≤ Wc.heap.size := (Array.getElem?_eq_some_iff.1 gbc).1
                  have HC := Lib.hid (And.intro gbc (And.intro hbC hzc))
                  have hv0 : (0 : Int) ≤ (vi : Int) := by omega
                  have hv1 : (vi : Int) < (n : Int) := by omega
                  rw [hAe]
                  clear hra q1 hcw ga gbb gbc hbA hbB hbC hzc hh hvk hvl hV hvv hAe
                  go_wp2_with fail
                  refine Dr.region (Dr.Ws [Wa, Wb, Wc]) [6, 8] [(0, 1, false), (0, 1, false), (0, 1, false), (0, 1, false), (0, 1, false), (0, 0, false), (0, 0, true), (1, 1, false), (1, 1, true)] 2 (by kernel_rfl) (by kernel_rfl) (by kernel_rfl) (by kernel_rfl) hWa ?_
                  apply Dr.cons
                  · intro k hk1 hk2 w' hw K hK
                    obtain rfl | rfl : k = 0 ∨ k = 1 := by omega
                    · have hw : w' = Wa := hw
                      subst hw
                      go_simp
                      exact hK _ rfl
                    · have hw : w' = Wb := hw
                      subst hw
                      go_simp
                      exact hK _ rfl
                  · exact ⟨_, rfl⟩
                  apply Dr.cons
                  · intro k hk1 hk2 w' hw K hK
                    obtain rfl | rfl : k = 0 ∨ k = 1 := by omega
                    · have hw : w' = Wa := hw
                      subst hw
                      go_simp
                      exact hK _ rfl
                    · have hw : w' = Wb := hw
                      subst hw
                      go_simp
                      exact hK _ rfl
                  · exact ⟨_, rfl⟩
                  apply Dr.cons
                  · intro k hk1 hk2 w' hw K hK
                    obtain rfl | rfl : k = 0 ∨ k = 1 := by omega
                    · have hw : w' = Wa := hw
                      subst hw
                      go_simp
                      exact hK _ rfl
                    · have hw : w' = Wb := hw
                      subst hw
                      go_simp
                      exact hK _ rfl
                  · exact ⟨_, rfl⟩
                  apply Dr.cons
                  · intro k hk1 hk2 w' hw K hK
                    obtain rfl | rfl : k = 0 ∨ k = 1 := by omega
                    · have hw : w' = Wa := hw
                      subst hw
                      go_simp
                      exact hK _ rfl
                    · have hw : w' = Wb := hw
                      subst hw
                      go_simp
                      exact hK _ rfl
                  · exact ⟨_, rfl⟩
                  apply Dr.cons
                  · intro k hk1 hk2 w' hw K hK
                    obtain rfl | rfl : k = 0 ∨ k = 1 := by omega
                    · have hw : w' = Wa := hw
                      subst hw
                      go_simp
                      exact hK _ rfl
                    · have hw : w' = Wb := hw
                      subst hw
                      go_simp
                      exact hK _ rfl
                  · exact ⟨_, rfl⟩
                  apply Dr.cons
                  · intro k hk1 hk2 w' hw K hK
                    obtain rfl : k = 0 := by omega
                    have hw : w' = Wa := hw
                    subst hw
                    go_simp
                    exact hK _ rfl
                  · exact ⟨_, rfl⟩
                  apply Dr.cons
                  · intro k hk1 hk2 w' hw K hK
                    obtain rfl : k = 0 := by omega
                    have hw : w' = Wa := hw
                    subst hw
                    go_simp
                    exact hK _ rfl
                  · exact ⟨.int .i64 0, rfl⟩
                  apply Dr.cons
                  · intro k hk1 hk2 w' hw K hK
                    obtain rfl : k = 1 := by omega
                    have hw : w' = Wb := hw
                    subst hw
                    go_simp
                    exact hK _ rfl
                  · exact ⟨_, rfl⟩
                  apply Dr.cons
                  · intro k hk1 hk2 w' hw K hK
                    obtain rfl : k = 1 := by omega
                    have hw : w' = Wb := hw
                    subst hw
                    go_simp
                    exact hK _ rfl
                  · exact ⟨.int .i64 0, rfl⟩
                  intro w' hw'
                  have hw' : w' = Wc := hw'
                  subst hw'
                  go_wp2_with fail
                  rw [← HAe.out]
                  go_meet
                  case rel =>
                    rw [HI.out, HV.out]
                    exact ⟨rfl, HC.out.1, HC.out.2.1, HC.out.2.2⟩
              case rest =>
                obtain ⟨rfl, g7, hb7, hz7⟩ := hcut
                obtain ⟨x1, hx1⟩ : ∃ x1, isK a tk = x1 := ⟨_, rfl⟩
                obtain ⟨x3, hx3⟩ : ∃ x3, valK a tk = x3 := ⟨_, rfl⟩
                rw [hx1, hx3] at g7
                have HX1 := Lib.hid hx1
                have HX3 := Lib.hid hx3
                have HG7 := Lib.hid g7
                have HB7 := Lib.hid hb7
                have HBw7 := Lib.hid (HBwr.out.trans (hb7.mono (by omega)))
                clear g7 hb7 hx1 hx3
                go_upto_if 80 with (go_at_call 27; go_loud (refine (HIb.out _ HBw7.out tk).mono ?_; rintro e w8 ⟨rfl, hb8⟩; have HB8' := Lib.hid hb8; clear hb8))
                have HB8 := Lib.hid (HB7.out.trans (HB8'.out.mono (by omega)))
                have HG8 := Lib.hid ((HB8'.out.block _ (by omega)).trans HG7.out)
                have hz8 : gb + 1 ≤ w8.heap.size := by have := HB8'.out.size; omega
                clear HB8'
                go_cut [18, 19, 54] from 54 to 104 (fun _ _ s54 wx => s54 = .int .i64 (j : Int) ∧ wx.heap[gb]? = some (.cells #[.string tk, .bool x1, .bool (isK b tk), .string x3, .string (valK b tk)] 49 (0, 0)) ∧ Below gb wr wx ∧ gb + 1 ≤ wx.heap.size)
                case first =>
                  cases hh : hasK key1 b tk with
                  | false =>
                    have HI := Lib.hid (show isK b tk = false from (isK_has HFb.out.sorted tk).trans hh)
                    have HV := Lib.hid (show valK b tk = ByteArray.empty by unfold valK; rw [getK_eq HFb.out.sorted, hh]; rfl)
                    go_wp2
                    go_meet
                    case rel =>
                      rw [HI.out, HV.out]
                      exact ⟨rfl, HG8.out, HB8.out, hz8⟩
                  | true =>
                    obtain ⟨hvl, hvk⟩ := hasK_at hh
                    have HI := Lib.hid (show isK b tk = true from (isK_has HFb.out.sorted tk).trans hh)
                    have hV : valK b tk = (b[lowK key1 b tk]!).2 := by unfold valK; rw [getK_eq HFb.out.sorted, hh]; rfl
                    obtain ⟨vi, hvi⟩ : ∃ vi, lowK key1 b tk = vi := ⟨_, rfl⟩
                    rw [hvi] at hvl hV ⊢
                    obtain ⟨vv, hvv⟩ : ∃ vv, (b[vi]!).2 = vv := ⟨_, rfl⟩
                    rw [hvv] at hV
                    have HV := Lib.hid hV
                    have hvn : vi < p := by rw [← HB.out.len]; exact hvl
                    obtain ⟨ba, oa, hAe, hba, hra⟩ := HB.out.sl (by omega)
                    have HAe := Lib.hid hAe
                    have q1 : w.cell? ⟨ba, oa + vi * 2 + 1, none⟩ = some (.string vv) := by rw [← hvv]; exact hra vi hvn 1 _ rfl
                    have hbg : ba < gb := by omega
                    have hcw : wr.cell? ⟨ba, oa + vi * 2 + 1, none⟩ = some (.string vv) := (HBwr.out.cell (p := ⟨ba, oa + vi * 2 + 1, none⟩) hba).trans q1
                    obtain ⟨Wa, hWa⟩ : ∃ Wa, w8.drew = Wa := ⟨_, rfl⟩
                    have ga : Wa.heap[gb]? = some (.cells #[.string tk, .bool x1, .bool false, .string x3, .string ByteArray.empty] 49 (0, 0)) := by rw [← hWa]; exact HG8.out
                    have hbA : Below gb wr Wa := by rw [← hWa]; exact HB8.out.drew
                    obtain ⟨Wb, hWb⟩ : ∃ Wb, Wa.setCell ⟨gb, 2, none⟩ (.bool true) = Wb := ⟨_, rfl⟩
                    have gbb : Wb.heap[gb]? = some (.cells #[.string tk, .bool x1, .bool true, .string x3, .string ByteArray.empty] 49 (0, 0)) := by rw [← hWb]; exact heap_setCell_same Wa gb 2 _ 49 _ ga
                    have hbB : Below gb wr Wb := by rw [← hWb]; exact hbA.setCell (p := ⟨gb, 2, none⟩) (Nat.le_refl _) _
                    obtain ⟨Wc, hWc⟩ : ∃ Wc, Wb.setCell ⟨gb, 4, none⟩ (.string vv) = Wc := ⟨_, rfl⟩
                    have gbc : Wc.heap[gb]? = some (.cells #[.string tk, .bool x1, .bool true, .string x3, .string vv] 49 (0, 0)) := by rw [← hWc]; exact heap_setCell_same Wb gb 4 _ 49 _ gbb
                    have hbC : Below gb wr Wc := by rw [← hWc]; exact hbB.setCell (p := ⟨gb, 4, none⟩) (Nat.le_refl _) _
                    have ca : Wa.cell? ⟨ba, oa + vi * 2 + 1, none⟩ = some (.string vv) := (hbA.cell (p := ⟨ba, oa + vi * 2 + 1, none⟩) hbg).trans hcw
                    have cb : Wb.cell? ⟨ba, oa + vi * 2 + 1, none⟩ = some (.string vv) := (hbB.cell (p := ⟨ba, oa + vi * 2 + 1, none⟩) hbg).trans hcw
                    have u1 := cell_of_row Wa gb 2 _ 49 (0, 0) ga
                    have u3 := cell_of_row Wb gb 4 _ 49 (0, 0) gbb
                    have f1 := frozen_of_row Wa gb 2 _ 49 ga
                    have f3 := frozen_of_row Wb gb 4 _ 49 gbb
                    have hzc : gb + 1 ≤ Wc.heap.size := (Array.getElem?_eq_some_iff.1 gbc).1
                    have HC := Lib.hid (And.intro gbc (And.intro hbC hzc))
                    have hv0 : (0 : Int) ≤ (vi : Int) := by omega
                    have hv1 : (vi : Int) < (p : Int) := by omega
                    rw [hAe]
                    clear hra q1 hcw ga gbb gbc hbA hbB hbC hzc hh hvk hvl hV hvv hAe
                    go_wp2_with fail
                    refine Dr.region (Dr.Ws [Wa, Wb, Wc]) [6, 8] [(0, 1, false), (0, 1, false), (0, 1, false), (0, 1, false), (0, 1, false), (0, 0, false), (0, 0, true), (1, 1, false), (1, 1, true)] 2 (by kernel_rfl) (by kernel_rfl) (by kernel_rfl) (by kernel_rfl) hWa ?_
                    apply Dr.cons
                    · intro k hk1 hk2 w' hw K hK
                      obtain rfl | rfl : k = 0 ∨ k = 1 := by omega
                      · have hw : w' = Wa := hw
                        subst hw
                        go_simp
                        exact hK _ rfl
                      · have hw : w' = Wb := hw
                        subst hw
                        go_simp
                        exact hK _ rfl
                    · exact ⟨_, rfl⟩
                    apply Dr.cons
                    · intro k hk1 hk2 w' hw K hK
                      obtain rfl | rfl : k = 0 ∨ k = 1 := by omega
                      · have hw : w' = Wa := hw
                        subst hw
                        go_simp
                        exact hK _ rfl
                      · have hw : w' = Wb := hw
                        subst hw
                        go_simp
                        exact hK _ rfl
                    · exact ⟨_, rfl⟩
                    apply Dr.cons
                    · intro k hk1 hk2 w' hw K hK
                      obtain rfl | rfl : k = 0 ∨ k = 1 := by omega
                      · have hw : w' = Wa := hw
                        subst hw
                        go_simp
                        exact hK _ rfl
                      · have hw : w' = Wb := hw
                        subst hw
                        go_simp
                        exact hK _ rfl
                    · exact ⟨_, rfl⟩
                    apply Dr.cons
                    · intro k hk1 hk2 w' hw K hK
                      obtain rfl | rfl : k = 0 ∨ k = 1 := by omega
                      · have hw : w' = Wa := hw
                        subst hw
                        go_simp
                        exact hK _ rfl
                      · have hw : w' = Wb := hw
                        subst hw
                        go_simp
                        exact hK _ rfl
                    · exact ⟨_, rfl⟩
                    apply Dr.cons
                    · intro k hk1 hk2 w' hw K hK
                      obtain rfl | rfl : k = 0 ∨ k = 1 := by omega
                      · have hw : w' = Wa := hw
                        subst hw
                        go_simp
                        exact hK _ rfl
                      · have hw : w' = Wb := hw
                        subst hw
                        go_simp
                        exact hK _ rfl
                    · exact ⟨_, rfl⟩
                    apply Dr.cons
                    · intro k hk1 hk2 w' hw K hK
                      obtain rfl : k = 0 := by omega
                      have hw : w' = Wa := hw
                      subst hw
                      go_simp
                      exact hK _ rfl
                    · exact ⟨_, rfl⟩
                    apply Dr.cons
                    · intro k hk1 hk2 w' hw K hK
                      obtain rfl : k = 0 := by omega
                      have hw : w' = Wa := hw
                      subst hw
                      go_simp
                      exact hK _ rfl
                    · exact ⟨.int .i64 0, rfl⟩
                    apply Dr.cons
                    · intro k hk1 hk2 w' hw K hK
                      obtain rfl : k = 1 := by omega
                      have hw : w' = Wb := hw
                      subst hw
                      go_simp
                      exact hK _ rfl
                    · exact ⟨_, rfl⟩
                    apply Dr.cons
                    · intro k hk1 hk2 w' hw K hK
                      obtain rfl : k = 1 := by omega
                      have hw : w' = Wb := hw
                      subst hw
                      go_simp
                      exact hK _ rfl
                    · exact ⟨.int .i64 0, rfl⟩
                    intro w' hw'
                    have hw' : w' = Wc := hw'
                    subst hw'
                    go_wp2_with fail
                    rw [← HAe.out]
                    go_meet
                    case rel =>
                      rw [HI.out, HV.out]
                      exact ⟨rfl, HC.out.1, HC.out.2.1, HC.out.2.2⟩
                case rest =>
                  obtain ⟨rfl, g9, hb9, hz9⟩ := hcut
                  obtain ⟨x2, hx2⟩ : ∃ x2, isK b tk = x2 := ⟨_, rfl⟩
                  obtain ⟨x4, hx4⟩ : ∃ x4, valK b tk = x4 := ⟨_, rfl⟩
                  rw [hx2, hx4] at g9
                  have hgb := HGb.out
                  have HBv9 := Lib.hid (HBr.out.trans (hb9.mono (by omega)))
                  have HO9 := Lib.hid (own_below HOw.out hb9 (Nat.le_of_eq hgb))
                  have HCh := Lib.hid (show chOf a b tk = ⟨tk, x1, x2, x3, x4⟩ by unfold chOf; rw [HX1.out, HX3.out, hx2, hx4])
                  have k0 := cell_of_row _ gb 0 _ 49 (0, 0) g9
                  have k1 := cell_of_row _ gb 1 _ 49 (0, 0) g9
                  have k2 := cell_of_row _ gb 2 _ 49 (0, 0) g9
                  have k3 := cell_of_row _ gb 3 _ 49 (0, 0) g9
                  have k4 := cell_of_row _ gb 4 _ 49 (0, 0) g9
                  have HDs := Lib.hid (show diffL (ks.take (j + 1)) a b = diffL (ks.take j) a b ++ (if (decide (x1 ≠ x2) || decide (x3 ≠ x4)) = true then [(⟨tk, x1, x2, x3, x4⟩ : Ch)] else []) by
                    unfold diffL
                    rw [HT.out, List.map_append, List.filter_append]
                    congr 1
                    rw [List.map_singleton, HCh.out, List.filter_cons, List.filter_nil]
                    rfl)
                  clear hx2 hx4 hb9 hgb
                  by_cases e1 : x1 = x2
                  · subst e1
                    by_cases e2 : x3 = x4
                    · subst e2
                      have HK : Hid (diffL (ks.take (j + 1)) a b = diffL (ks.take j) a b) := Lib.hid (by rw [HDs.out]; simp)
                      clear HDs HCh
                      go_wp2_with fail
                      go_roundw
                      case rel =>
                        refine ⟨j + 1, m, Ao, co, by omega, ?_, rfl, by omega, Lib.hid (by rw [HK.out]; exact HLen.out), Lib.hid (by rw [HK.out]; exact HO9.out), HBv9.out⟩
                        go_num
                      case measure => simp [intOf]; omega
                    · have HK : Hid (diffL (ks.take (j + 1)) a b = diffL (ks.take j) a b ++ [⟨tk, x1, x1, x3, x4⟩]) := Lib.hid (by rw [HDs.out]; simp [e2])
                      have t2 : (x3.toList == x4.toList) = false := by
                        rw [beq_eq_false_iff_ne]
                        exact fun h => e2 (ba_ext h)
                      clear e2
                      have hv9row : rowsV chV (diffL (ks.take j) a b) ++ (#[Value.string tk, .bool x1, .bool x1, .string x3, .string x4] : Array Value).toList = rowsV chV (diffL (ks.take (j + 1)) a b) := by rw [HK.out, rowsV_snoc]; rfl
                      have HRw := Lib.hid hv9row
                      clear HDs HCh hv9row
                      go_wp2_with (at_builtin; go_loud (refine wpList_append_oneN wc wc.heap.size rfl #[.string tk, .bool x1, .bool x1, .string x3, .string x4] rfl (.tmp 100) (.tmp 102) 43 rfl w5.heap.size 49 i49 (.agg #[.string ByteArray.empty, .bool false, .bool false, .string ByteArray.empty, .string ByteArray.empty]) 5 56 Tryd.underlying43 E0 E1 E2 E3 rfl (by decide) (.slice Ao m co) m _ rfl HO9.out rfl rfl (by simp [Value.oneCell']) (by omega) (by decide) HBv9.out.size ?_; intro g3 cap3 w10 hv10 hg10 hat10 hlt10))
                      have hv11 := hv10
                      rw [HRw.out] at hv11
                      have hb10 : Below w5.heap.size w5 w10 := below_app HBv9.out HBv9.out.size HO9.out (Nat.le_refl _) hg10
                      go_roundw
                      case rel =>
                        refine ⟨j + 1, m + 1, _, _, by omega, ?_, rfl, by omega, Lib.hid (by rw [HK.out, List.length_append, ← HLen.out]; rfl), Lib.hid hv11, hb10⟩
                        go_num
                      case measure => simp [intOf]; omega
                  · have HK : Hid (diffL (ks.take (j + 1)) a b = diffL (ks.take j) a b ++ [⟨tk, x1, x2, x3, x4⟩]) := Lib.hid (by rw [HDs.out]; simp [e1])
                    have t1 : (x1 == x2) = false := by simpa using e1
                    clear e1
                    have hv9row : rowsV chV (diffL (ks.take j) a b) ++ (#[Value.string tk, .bool x1, .bool x2, .string x3, .string x4] : Array Value).toList = rowsV chV (diffL (ks.take (j + 1)) a b) := by rw [HK.out, rowsV_snoc]; rfl
                    have HRw := Lib.hid hv9row
                    clear HDs HCh hv9row
                    go_wp2_with (at_builtin; go_loud (refine wpList_append_oneN wc wc.heap.size rfl #[.string tk, .bool x1, .bool x2, .string x3, .string x4] rfl (.tmp 100) (.tmp 102) 43 rfl w5.heap.size 49 i49 (.agg #[.string ByteArray.empty, .bool false, .bool false, .string ByteArray.empty, .string ByteArray.empty]) 5 56 Tryd.underlying43 E0 E1 E2 E3 rfl (by decide) (.slice Ao m co) m _ rfl HO9.out rfl rfl (by simp [Value.oneCell']) (by omega) (by decide) HBv9.out.size ?_; intro g3 cap3 w10 hv10 hg10 hat10 hlt10))
                    have hv11 := hv10
                    rw [HRw.out] at hv11
                    have hb10 : Below w5.heap.size w5 w10 := below_app HBv9.out HBv9.out.size HO9.out (Nat.le_refl _) hg10
                    go_roundw
                    case rel =>
                      refine ⟨j + 1, m + 1, _, _, by omega, ?_, rfl, by omega, Lib.hid (by rw [HK.out, List.length_append, ← HLen.out]; rfl), Lib.hid hv11, hb10⟩
                      go_num
                    case measure => simp [intOf]; omega
            · obtain rfl : j = q := by omega
              have HBe := Lib.hid (HBw5.out.trans (hbr.mono HBw5.out.size))
              have hT : ks.take j = ks := List.take_of_length_le (Nat.le_of_eq HQ.out.symm)
              have hLen := HLen.out
              have hOw := HOw.out
              rw [hT] at hLen hOw
              have hR : diffR a b = diffL ks a b := by unfold diffR; rw [if_pos HD0.out, HKs.out]
              rw [← hR] at hLen hOw
              have HLe := Lib.hid hLen
              have HOe := Lib.hid (own_mono hOw hz4)
              clear hT hLen hOw hR
              go_wp2_with fail
              go_ret2
              unfold DiffP
              rw [← HLe.out, HD0.out]
              exact ⟨Ao, co, rfl, HOe.out, HBe.out⟩
end Go.Proofs.YtojnojjiblcmcaaDoor
