/- Package label: the walk of Greedy. -/
import Derived.Test.YtpnihjomemojlaaC3
namespace Go.Proofs.Ytpnihjomemojlaa
open Go.RowKit

def greedyX (l : List It) : List Int × Int := if ckL l ≠ 0 then ([], ckL l) else ((greedyG l l.length).1, 0)
def GreedyP (l : List It) (w : World) (e : Ending) (w' : World) : Prop :=
  ∃ A c, e = .returned (.tuple #[.slice A (greedyX l).1.length c, .int .i64 (greedyX l).2]) ∧ (greedyX l).1.length ≤ c ∧ (A = none → (greedyX l).1.length = 0) ∧ Sl w' w'.heap.size 1 A (greedyX l).1.length (fun i => intV1 (greedyX l).1[i]!) ∧ Below w.heap.size w w'

set_option maxRecDepth 100000 in
set_option maxHeartbeats 8000000 in
theorem Greedy_any (A : Option Addr) (n c : Nat) (l : List It) (w : World) (hA : Sl w w.heap.size 4 A n (fun i => itV l[i]!)) (hl : l.length = n) (hn : n ≤ 100) :
    Calls Try.prog 13 #[.slice A n c] w (GreedyP l w) := by
  have HCk := Lib.hid (Check_any A n c l w hA hl (by omega))
  by_cases h0 : ckL l = 0
  · rw [h0] at HCk
    have HX := Lib.hid (show greedyX l = ((greedyG l n).1, 0) by unfold greedyX; rw [if_neg (fun h => h h0), hl])
    have HA := Lib.hid hA
    have HL := Lib.hid hl
    obtain ⟨i3, J0, J1, J2, J3⟩ := info_parts (show (Try.prog.info? 3).map (fun i => (i.zero, i.size, i.bytes)) = some (some (.int .i64 0), 1, 8) by kernel_rfl)
    obtain ⟨i23, E0, E1, E2, E3⟩ := info_parts (show (Try.prog.info? 23).map (fun i => (i.zero, i.size, i.bytes)) = some (some (.agg #[.int .i64 0, .int .i64 0, .int .i64 0, .int .i64 0]), 4, 32) by kernel_rfl)
    clear hA hl h0
    go_enter Try.func13, Try.ntmps13
    go_wp2_with (go_at_call 18; go_loud (refine HCk.out.mono ?_; rintro e w1 ⟨rfl, hb1⟩; have HB1 := Lib.hid hb1; clear hb1))
    go_loopw [5, 6, 8, 9, 10, 11, 19, 23] (fun t5 t6 _ _ _ _ i _ wr => ∃ (j m : Nat) (O U : Option Addr) (co cu : Nat), j ≤ n ∧ m ≤ j ∧ i = .int .i64 (j : Int) ∧ t5 = .slice O j co ∧ t6 = .slice U m cu ∧ Hid ((greedyG l j).2.length = m) ∧ Hid (wr.ownsRow w.heap.size 3 1 (.slice O j co) j (rowsV intV1 (greedyG l j).1)) ∧ Hid (wr.ownsRow w.heap.size 23 4 (.slice U m cu) m (rowsV bxV (greedyG l j).2)) ∧ Hid (ApartV (.slice O j co) (.slice U m cu)) ∧ Below w.heap.size w wr) (fun _ _ _ _ _ _ i _ _ => n - (intOf i).toNat)
    case atStart => exact ⟨0, 0, none, none, 0, 0, by omega, by omega, rfl, rfl, rfl, Lib.hid rfl, Lib.hid (World.ownsRow_nil _ _ _ _), Lib.hid (World.ownsRow_nil _ _ _ _), Lib.hid (.inl rfl), HB1.out⟩
    case round =>
      obtain ⟨j, m, O, U, co, cu, hj, hm, rfl, rfl, rfl, HLm, HO, HU, HAp, hbr⟩ := hrel
      by_cases hlt : j < n
      · have hj0 : (0 : Int) ≤ (j : Int) := by omega
        have hjn : (j : Int) < (n : Int) := by omega
        obtain ⟨ba, oa, rfl, hba, hra⟩ := HA.out (by omega)
        have hc : w.rangeAt ba (oa + j * 4) (itV l[j]!) := hra j hlt
        have HS : Hid (greedyG l (j + 1) = stepG l (greedyG l j) l[j]!) := Lib.hid rfl
        obtain ⟨it, hit⟩ : ∃ it, l[j]! = it := ⟨_, rfl⟩
        rw [hit] at hc HS
        have c0 : wr.cell? ⟨ba, oa + j * 4, none⟩ = some (.int .i64 it.x) := (hbr.cell (p := ⟨ba, oa + j * 4, none⟩) hba).trans (hc 0 _ rfl)
        have c1 : wr.cell? ⟨ba, oa + j * 4 + 1, none⟩ = some (.int .i64 it.y) := (hbr.cell (p := ⟨ba, oa + j * 4 + 1, none⟩) hba).trans (hc 1 _ rfl)
        have c2 : wr.cell? ⟨ba, oa + j * 4 + 2, none⟩ = some (.int .i64 it.w) := (hbr.cell (p := ⟨ba, oa + j * 4 + 2, none⟩) hba).trans (hc 2 _ rfl)
        have c3 : wr.cell? ⟨ba, oa + j * 4 + 3, none⟩ = some (.int .i64 it.h) := (hbr.cell (p := ⟨ba, oa + j * 4 + 3, none⟩) hba).trans (hc 3 _ rfl)
        obtain ⟨q, hq⟩ : ∃ q, greedyG l j = q := ⟨_, rfl⟩
        rw [hq] at HS HLm HO HU
        obtain ⟨out, used⟩ := q
        dsimp only at HLm HO HU
        obtain ⟨W0, hW0⟩ : ∃ W0, wr.alloc (.cells #[.int .i64 it.x, .int .i64 it.y, .int .i64 it.w, .int .i64 it.h] 31) = W0 := ⟨_, rfl⟩
        have G0 := Lib.hid (show W0.heap[wr.heap.size]? = some (.cells #[.int .i64 it.x, .int .i64 it.y, .int .i64 it.w, .int .i64 it.h] 31 (0, 0)) by rw [← hW0]; exact heap_alloc_new wr _)
        have hlt0 : wr.heap.size < W0.heap.size := (Array.getElem?_eq_some_iff.1 G0.out).1
        have B0 := Lib.hid (show Below w.heap.size w W0 by rw [← hW0]; exact hbr.alloc hbr.size _)
        have O0 := Lib.hid (show W0.ownsRow w.heap.size 3 1 (.slice O j co) j (rowsV intV1 out) by rw [← hW0]; exact HO.out.alloc _)
        have U0 := Lib.hid (show W0.ownsRow w.heap.size 23 4 (.slice U m cu) m (rowsV bxV used) by rw [← hW0]; exact HU.out.alloc _)
        have R0 := Lib.hid (Below.refl W0.heap.size W0)
        have hzr := hbr.size
        have hz0 := B0.out.size
        clear hc hra hit hq hbr
        go_wp2_with fail
        go_loopw [6, 9, 10, 11, 23] (fun t6 t9 _ _ k wk => ∃ s : Nat, s ≤ 8 ∧ k = .int .i64 (s : Int) ∧ t9 = .int .i64 (-1) ∧ t6 = .slice U m cu ∧ Hid (∀ x, x < s → freeB l used (boxS it x) = false) ∧ Below W0.heap.size W0 wk) (fun _ _ _ _ k _ => 8 - (intOf k).toNat)
        case atStart => exact ⟨0, by omega, rfl, rfl, rfl, Lib.hid (fun x hx => absurd hx (by omega)), R0.out⟩
        case round =>
          obtain ⟨s, hs, rfl, rfl, rfl, HK, hbk⟩ := hrel
          have UK := Lib.hid (own_below U0.out hbk (Nat.le_refl _))
          have OK := Lib.hid (own_below O0.out hbk (Nat.le_refl _))
          have BK := Lib.hid (B0.out.trans (hbk.mono B0.out.size))
          have GK := Lib.hid ((hbk.block _ hlt0).trans G0.out)
          have hzk := hbk.size
          have HBk := Lib.hid hbk
          by_cases hs8 : s < 8
          · have hs0 : (0 : Int) ≤ (s : Int) := by omega
            have hs1 : (s : Int) < 8 := by omega
            have e0 := cell_of_row _ _ 0 _ 31 (0, 0) GK.out
            have e1 := cell_of_row _ _ 1 _ 31 (0, 0) GK.out
            have e2 := cell_of_row _ _ 2 _ 31 (0, 0) GK.out
            have e3 := cell_of_row _ _ 3 _ 31 (0, 0) GK.out
            clear hbk c0 c1 c2 c3
            have HBox := Lib.hid (fun W => box_any it s hs8 W)
            obtain ⟨bx, hbx⟩ : ∃ bx, boxS it s = bx := ⟨_, rfl⟩
            rw [hbx] at HBox
            obtain ⟨r, hr⟩ : ∃ r, freeB l used bx = r := ⟨_, rfl⟩
            have HFr := Lib.hid (fun (W : World) (hW : Below w.heap.size w W) (hU : W.ownsRow w.heap.size 23 4 (.slice U m cu) m (rowsV bxV used)) => free_any (some ⟨ba, oa, none⟩) U n m c cu l used bx W ((HA.out.below hW).more hW.size) (Sl_rows (k := 4) (fun _ => rfl) hU HLm.out (by decide)) HL.out HLm.out (by omega) (by omega))
            rw [hr] at HFr
            have HBX := Lib.hid hbx
            have HR := Lib.hid hr
            obtain ⟨b1, b2, b3, b4⟩ := bx
            dsimp only at HBox HFr
            clear hbx hr
            cases r with
            | false =>
              go_wp2_with (first
                | (go_at_call 20; go_loud (refine (HBox.out _).mono ?_; rintro e w2 ⟨rfl, hb2⟩; have B2 := BK.out.trans (hb2.mono BK.out.size); have U3 := Lib.hid ((own_below UK.out hb2 (Nat.le_refl _)).alloc (.cells #[.int .i64 b1, .int .i64 b2, .int .i64 b3, .int .i64 b4] 23)); have B3 := Lib.hid (B2.alloc B2.size (.cells #[.int .i64 b1, .int .i64 b2, .int .i64 b3, .int .i64 b4] 23)); have C3 := (HBk.out.trans (hb2.mono hzk)).alloc (Nat.le_trans hzk hb2.size) (.cells #[.int .i64 b1, .int .i64 b2, .int .i64 b3, .int .i64 b4] 23)))
                | (go_at_call 21; go_loud (refine (HFr.out _ B3.out U3.out).mono ?_; rintro e w4 ⟨rfl, hb4⟩; have C4 := C3.trans (hb4.mono C3.size))))
              go_roundw
              case rel => exact ⟨s + 1, by omega, by go_num, rfl, rfl, Lib.hid (fun x hx => by
                by_cases e : x = s
                · subst e; rw [HBX.out]; exact HR.out
                · exact HK.out x (by omega)), C4⟩
              case measure => simp [intOf]; omega
            | true =>
              have hsp := spotF_some hs8 (by rw [HBX.out]; exact HR.out) HK.out
              have HSt := Lib.hid (show greedyG l (j + 1) = (out ++ [(s : Int)], used ++ [⟨b1, b2, b3, b4⟩]) by rw [HS.out]; unfold stepG; dsimp only; rw [hsp]; dsimp only; rw [HBX.out])
              clear hsp
              have HRu := Lib.hid (show rowsV bxV used ++ (#[Value.int .i64 b1, .int .i64 b2, .int .i64 b3, .int .i64 b4] : Array Value).toList = rowsV bxV (used ++ [⟨b1, b2, b3, b4⟩]) by rw [rowsV_snoc]; rfl)
              have HRo := Lib.hid (show rowsV intV1 out ++ (#[Value.int .i64 (s : Int)] : Array Value).toList = rowsV intV1 (out ++ [(s : Int)]) by rw [rowsV_snoc]; rfl)
              go_wp2_with (first
                | (go_at_call 20; go_loud (refine (HBox.out _).mono ?_; rintro e w2 ⟨rfl, hb2⟩; have B2 := BK.out.trans (hb2.mono BK.out.size); have U3 := Lib.hid ((own_below UK.out hb2 (Nat.le_refl _)).alloc (.cells #[.int .i64 b1, .int .i64 b2, .int .i64 b3, .int .i64 b4] 23)); have O3 := Lib.hid ((own_below OK.out hb2 (Nat.le_refl _)).alloc (.cells #[.int .i64 b1, .int .i64 b2, .int .i64 b3, .int .i64 b4] 23)); have B3 := Lib.hid (B2.alloc B2.size (.cells #[.int .i64 b1, .int .i64 b2, .int .i64 b3, .int .i64 b4] 23)); have G3 := Lib.hid (heap_alloc_new w2 (.cells #[.int .i64 b1, .int .i64 b2, .int .i64 b3, .int .i64 b4] 23))))
                | (go_at_call 21; go_loud (refine (HFr.out _ B3.out U3.out).mono ?_; rintro e w4 ⟨rfl, hb4⟩; have B4 := Lib.hid (B3.out.trans (hb4.mono B3.out.size)); have U4 := Lib.hid (own_below U3.out hb4 (Nat.le_refl _)); have O4 := Lib.hid (own_below O3.out hb4 (Nat.le_refl _)); have g4 := (hb4.block w2.heap.size (by simp)).trans G3.out; have d0 := cell_of_row w4 _ 0 _ 23 (0, 0) g4; have d1 := cell_of_row w4 _ 1 _ 23 (0, 0) g4; have d2 := cell_of_row w4 _ 2 _ 23 (0, 0) g4; have d3 := cell_of_row w4 _ 3 _ 23 (0, 0) g4; clear hb4 g4))
                | (at_builtin; have _h := B5; go_loud (refine wpList_append_oneN w5 w5.heap.size rfl #[.int .i64 (s : Int)] rfl (.tmp 39) (.tmp 41) 32 rfl w.heap.size 3 i3 (.int .i64 0) 1 8 Try.underlying32 J0 J1 J2 J3 rfl (by decide) (.slice O j co) j _ rfl O5.out rfl rfl (by simp [Value.oneCell']) (by omega) (by decide) B5.out.size ?_; intro g6 cap6 w6 hv6 hg6 hat6 hlt6))
                | (at_builtin; go_loud (refine wpList_append_oneN w4 w4.heap.size rfl #[.int .i64 b1, .int .i64 b2, .int .i64 b3, .int .i64 b4] rfl (.tmp 34) (.tmp 36) 45 rfl w.heap.size 23 i23 (.agg #[.int .i64 0, .int .i64 0, .int .i64 0, .int .i64 0]) 4 32 Try.underlying45 E0 E1 E2 E3 rfl (by decide) (.slice U m cu) m _ rfl U4.out rfl rfl (by simp [Value.oneCell']) (by omega) (by decide) B4.out.size ?_; intro g5 cap5 w5 hv5 hg5 hat5 hlt5; have B5 : Hid (Below w.heap.size w w5) := Lib.hid (below_app B4.out B4.out.size U4.out (Nat.le_refl _) hg5); have O5 := Lib.hid (own_app U4.out O4.out HAp.out.symm hg5); have A5 := Lib.hid (apart_app (m := m + 1) (cap := cap5) HAp.out.symm O4.out hat5); have U5 := Lib.hid (HRu.out ▸ hv5); clear hv5 hg5 hat5)))
              have B6 : Below w.heap.size w w6 := below_app B5.out B5.out.size O5.out (Nat.le_refl _) hg6
              have U6 := own_app O5.out U5.out A5.out.symm hg6
              have A6 := apart_app (m := j + 1) (cap := cap6) A5.out.symm U5.out hat6
              rw [HRo.out] at hv6
              go_roundw
              case rel =>
                exact ⟨j + 1, m + 1, _, _, cap6, cap5, by omega, by omega, by go_num, rfl, rfl, Lib.hid (by rw [HSt.out]; show (used ++ [_]).length = m + 1; rw [List.length_append, HLm.out]; rfl), Lib.hid (by rw [HSt.out]; exact hv6), Lib.hid (by rw [HSt.out]; exact U6), Lib.hid A6, B6⟩
              case measure => simp [intOf]; omega
          · obtain rfl : s = 8 := by omega
            have hsp := spotF_none HK.out
            have HSt := Lib.hid (show greedyG l (j + 1) = (out ++ [-1], used) by rw [HS.out]; unfold stepG; dsimp only; rw [hsp])
            have HRo := Lib.hid (show rowsV intV1 out ++ (#[Value.int .i64 (-1)] : Array Value).toList = rowsV intV1 (out ++ [-1]) by rw [rowsV_snoc]; rfl)
            clear hsp hbk
            go_wp2_with (at_builtin; go_loud (refine wpList_append_oneN wr wr.heap.size rfl #[.int .i64 (-1)] rfl (.tmp 39) (.tmp 41) 32 rfl w.heap.size 3 i3 (.int .i64 0) 1 8 Try.underlying32 J0 J1 J2 J3 rfl (by decide) (.slice O j co) j _ rfl OK.out rfl rfl (by simp [Value.oneCell']) (by omega) (by decide) BK.out.size ?_; intro g6 cap6 w6 hv6 hg6 hat6 hlt6))
            have B6 : Below w.heap.size w w6 := below_app BK.out BK.out.size OK.out (Nat.le_refl _) hg6
            have U6 := own_app OK.out UK.out HAp.out hg6
            have A6 := apart_app (m := j + 1) (cap := cap6) HAp.out UK.out hat6
            rw [HRo.out] at hv6
            go_roundw
            case rel =>
              exact ⟨j + 1, m, _, _, cap6, cu, by omega, by omega, by go_num, rfl, rfl, Lib.hid (by rw [HSt.out]; exact HLm.out), Lib.hid (by rw [HSt.out]; exact hv6), Lib.hid (by rw [HSt.out]; exact U6), Lib.hid A6, B6⟩
            case measure => simp [intOf]; omega
      · obtain rfl : j = n := by omega
        have HLo := (greedyG_len l j).1
        have HBe := Lib.hid hbr
        have hcap := own_cap HO.out
        have HSo := Lib.hid (Sl_rows (k := 1) (fun _ => rfl) HO.out HLo (by decide))
        have HNo := Lib.hid (fun h => (own_nil HO.out h).1)
        have HLh := Lib.hid HLo
        clear hbr HLo
        go_wp2_with fail
        go_ret2
        unfold GreedyP
        rw [HX.out]
        show ∃ A c, _ = Ending.returned (.tuple #[.slice A (greedyG l j).1.length c, .int .i64 0]) ∧ (greedyG l j).1.length ≤ c ∧ (A = none → (greedyG l j).1.length = 0) ∧ Sl _ _ 1 A (greedyG l j).1.length (fun i => intV1 (greedyG l j).1[i]!) ∧ _
        rw [HLh.out]
        exact ⟨O, co, rfl, hcap.1, HNo.out, HSo.out, HBe.out⟩
  · have HX := Lib.hid (show greedyX l = ([], ckL l) by unfold greedyX; rw [if_pos h0])
    obtain ⟨ce, hce⟩ : ∃ ce, ckL l = ce := ⟨_, rfl⟩
    rw [hce] at HCk HX h0
    have t1 : (ce != 0) = true := by simpa using h0
    clear hA hl h0 hce
    go_enter Try.func13, Try.ntmps13
    go_wp2_with (go_at_call 18; go_loud (refine HCk.out.mono ?_; rintro e w1 ⟨rfl, hb1⟩))
    go_ret2
    unfold GreedyP
    rw [HX.out]
    exact ⟨none, 0, rfl, Nat.le_refl _, fun _ => rfl, Sl.none_, hb1⟩
end Go.Proofs.Ytpnihjomemojlaa
