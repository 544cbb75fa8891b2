/- Package label: search, at its beginning and as a whole. -/
import Derived.Test.YtpnihjomemojlaaB3
namespace Go.Proofs.Ytpnihjomemojlaa
open Go.RowKit

set_option maxRecDepth 100000 in
set_option maxHeartbeats 4000000 in
theorem search_nil (A : Option Addr) (N cl : Nat) (l : List It) (f : Nat) (w : World) (hl : l.length = N) (hN : N ≤ 6)
    (hA : Sl w w.heap.size 4 A N (fun i => itV l[i]!)) (hf : f + 1 = N)
    (ih : ∀ (bs bu : Addr) (cs cu : Nat) (s : List Int) (u : List Bx) (w : World), Sl w w.heap.size 4 A N (fun i => itV l[i]!) → Sl w w.heap.size 1 (some bs) 1 (fun i => intV1 s[i]!) → Sl w w.heap.size 4 (some bu) 1 (fun i => bxV u[i]!) → s.length = 1 → u.length = 1 → 1 ≤ cs → 1 ≤ cu →
      Calls Try.prog 19 #[.slice A N cl, .slice (some bs) 1 cs, .slice (some bu) 1 cu] w (SrchP (srch l f s u) w)) :
    Calls Try.prog 19 #[.slice A N cl, .slice none 0 0, .slice none 0 0] w (SrchP (srch l (f + 1) [] []) w) := by
  obtain ⟨ba, oa, rfl, hba, hra⟩ := hA (by omega)
  have HA := Lib.hid hA
  have HR := Lib.hid (hra 0 (by omega))
  have HIh := Lib.hid ih
  have HL := Lib.hid hl
  have HE : Hid (srch l (f + 1) [] [] = srchK (srch l f) l [] [] (8 - 0)) := Lib.hid rfl
  generalize srch l (f + 1) [] [] = R at *
  obtain ⟨i3, J0, J1, J2, J3⟩ := info_parts (show (Try.prog.info? 3).map (fun i => (i.zero, i.size, i.bytes)) = some (some (.int .i64 0), 1, 8) by kernel_rfl)
  obtain ⟨i23, E0, E1, E2, E3⟩ := info_parts (show (Try.prog.info? 23).map (fun i => (i.zero, i.size, i.bytes)) = some (some (.agg #[.int .i64 0, .int .i64 0, .int .i64 0, .int .i64 0]), 4, 32) by kernel_rfl)
  have hnN : ((0 : Int) == (N : Int)) = false := by simp; omega
  have hn2 : (0 : Int) < (N : Int) := by omega
  clear hA ih hl hra
  go_enter Try.func19, Try.ntmps19
  go_wp2_with fail
  go_loopw [18] (fun i wr => ∃ j : Nat, j ≤ 8 ∧ i = .int .i64 (j : Int) ∧ Hid (R = srchK (srch l f) l [] [] (8 - j)) ∧ Below w.heap.size w wr) (fun i _ => 8 - (intOf i).toNat)
  case atStart => exact ⟨0, by omega, rfl, HE, Below.refl _ _⟩
  case round =>
    obtain ⟨j, hj, rfl, HK, hbr⟩ := hrel
    by_cases hlt : j < 8
    · have hj0 : (0 : Int) ≤ (j : Int) := by omega
      have hj8 : (j : Int) < 8 := by omega
      obtain ⟨it, hit⟩ : ∃ it, l[0]! = it := ⟨_, rfl⟩
      have HKN := Lib.hid (srchK_next (f := srch l f) (l := l) (s := []) (u := []) hlt)
      have hc := HR.out
      rw [hit] at hc
      rw [show ([] : List Int).length = 0 from rfl, hit] at HKN
      have HBr := Lib.hid hbr
      have c0 : wr.cell? ⟨ba, oa + 0 * 4, none⟩ = some (.int .i64 it.x) := (hbr.cell (p := ⟨ba, oa + 0 * 4, none⟩) hba).trans (hc 0 _ rfl)
      have c1 : wr.cell? ⟨ba, oa + 0 * 4 + 1, none⟩ = some (.int .i64 it.y) := (hbr.cell (p := ⟨ba, oa + 0 * 4 + 1, none⟩) hba).trans (hc 1 _ rfl)
      have c2 : wr.cell? ⟨ba, oa + 0 * 4 + 2, none⟩ = some (.int .i64 it.w) := (hbr.cell (p := ⟨ba, oa + 0 * 4 + 2, none⟩) hba).trans (hc 2 _ rfl)
      have c3 : wr.cell? ⟨ba, oa + 0 * 4 + 3, none⟩ = some (.int .i64 it.h) := (hbr.cell (p := ⟨ba, oa + 0 * 4 + 3, none⟩) hba).trans (hc 3 _ rfl)
      simp only [Nat.zero_mul, Nat.add_zero] at c0 c1 c2 c3
      have HBox := Lib.hid (box_any it j hlt wr)
      obtain ⟨bx, hbx⟩ : ∃ bx, boxS it j = bx := ⟨_, rfl⟩
      rw [hbx] at HBox HKN
      obtain ⟨r, hr⟩ : ∃ r, freeB l [] bx = r := ⟨_, rfl⟩
      rw [hr] at HKN
      have HFr := Lib.hid (fun (W : World) (hW : Below w.heap.size w W) => free_any (some ⟨ba, oa, none⟩) none N 0 cl 0 l [] bx W ((HA.out.below hW).more hW.size) Sl.none_ HL.out rfl (by omega) (by omega))
      rw [hr] at HFr
      obtain ⟨b1, b2, b3, b4⟩ := bx
      dsimp only at HBox HFr
      clear hc hbr hit hbx hr
      cases r with
      | false =>
        go_wp2_with (first
          | (go_at_call 20; go_loud (refine HBox.out.mono ?_; rintro e w1 ⟨rfl, hb1⟩; have B1 := HBr.out.trans (hb1.mono HBr.out.size); have B2 := B1.alloc B1.size (.cells #[.int .i64 b1, .int .i64 b2, .int .i64 b3, .int .i64 b4] 23)))
          | (go_at_call 21; go_loud (refine (HFr.out _ B2).mono ?_; rintro e w3 ⟨rfl, hb3⟩; have B3 := B2.trans (hb3.mono B2.size))))
        go_roundw
        case rel => exact ⟨j + 1, by omega, by go_num, Lib.hid (by rw [HK.out, HKN.out]; rfl), B3⟩
        case measure => simp [intOf]; omega
      | true =>
        go_wp2_with (first
          | (go_at_call 20; go_loud (refine HBox.out.mono ?_; rintro e w1 ⟨rfl, hb1⟩; have B1 := HBr.out.trans (hb1.mono HBr.out.size); have B2 := B1.alloc B1.size (.cells #[.int .i64 b1, .int .i64 b2, .int .i64 b3, .int .i64 b4] 23)))
          | (go_at_call 21; go_loud (refine (HFr.out _ B2).mono ?_; rintro e w3 ⟨rfl, hb3⟩; have B3 := Lib.hid (B2.trans (hb3.mono B2.size)); have G3 := Lib.hid ((hb3.block _ (by simp)).trans (heap_alloc_new w1 (.cells #[.int .i64 b1, .int .i64 b2, .int .i64 b3, .int .i64 b4] 23))))))
        have hgb : w1.heap.size < w3.heap.size := (Array.getElem?_eq_some_iff.1 G3.out).1
        have d0 := cell_of_row w3 _ 0 _ 23 (0, 0) G3.out
        have d1 := cell_of_row w3 _ 1 _ 23 (0, 0) G3.out
        have d2 := cell_of_row w3 _ 2 _ 23 (0, 0) G3.out
        have d3 := cell_of_row w3 _ 3 _ 23 (0, 0) G3.out
        obtain ⟨gb, hgbe⟩ : ∃ gb, w1.heap.size = gb := ⟨_, rfl⟩
        rw [hgbe] at d0 d1 d2 d3 hgb ⊢
        clear hb1 hb3 B1 B2 c0 c1 c2 c3
        have hs0 : Below w3.heap.size w3 w3.drew ∧ w3.drew.cell? ⟨gb, 0, none⟩ = some (.int .i64 b1) ∧ w3.drew.cell? ⟨gb, 1, none⟩ = some (.int .i64 b2) ∧ w3.drew.cell? ⟨gb, 2, none⟩ = some (.int .i64 b3) ∧ w3.drew.cell? ⟨gb, 3, none⟩ = some (.int .i64 b4) := ⟨(Below.refl _ _).drew, d0, d1, d2, d3⟩
        have hz3 := B3.out.size
        have HK1 := Lib.hid (show ((w3.alloc (.cells #[.int .i64 (j : Int)] 3)).alloc (.cells #[.int .i64 b1, .int .i64 b2, .int .i64 b3, .int .i64 b4] 23)).heap[w3.heap.size + 1]? = some (.cells #[.int .i64 b1, .int .i64 b2, .int .i64 b3, .int .i64 b4] 23 (0, 0)) by have h9 := heap_alloc_new (w3.alloc (.cells #[.int .i64 (j : Int)] 3)) (.cells #[.int .i64 b1, .int .i64 b2, .int .i64 b3, .int .i64 b4] 23); simpa using h9)
        have HK2 := Lib.hid (show w3.heap.size + 1 < ((w3.alloc (.cells #[.int .i64 (j : Int)] 3)).alloc (.cells #[.int .i64 b1, .int .i64 b2, .int .i64 b3, .int .i64 b4] 23)).heap.size by simp)
        have HK3 := Lib.hid (show ((w3.alloc (.cells #[.int .i64 b1, .int .i64 b2, .int .i64 b3, .int .i64 b4] 23)).alloc (.cells #[.int .i64 (j : Int)] 3)).heap[w3.heap.size + 1]? = some (.cells #[.int .i64 (j : Int)] 3 (0, 0)) by have h9 := heap_alloc_new (w3.alloc (.cells #[.int .i64 b1, .int .i64 b2, .int .i64 b3, .int .i64 b4] 23)) (.cells #[.int .i64 (j : Int)] 3); simpa using h9)
        have HLs := Lib.hid (show ([] ++ [(j : Int)]).length = 1 from rfl)
        have HLu := Lib.hid (show ([] ++ [(⟨b1, b2, b3, b4⟩ : Bx)]).length = 1 from rfl)
        have hcc := fun (bs bu : Addr) (cs cu : Nat) (W : World) h1 h2 h3 h4 h5 => HIh.out bs bu cs cu ([] ++ [(j : Int)]) ([] ++ [⟨b1, b2, b3, b4⟩]) W h1 h2 h3 HLs.out HLu.out h4 h5
        cases ho : srch l f ([] ++ [(j : Int)]) ([] ++ [⟨b1, b2, b3, b4⟩]) with
        | none =>
          rw [ho] at HKN hcc
          have HC := Lib.hid (fun bs bu cs cu W h1 h2 h3 h4 h5 => (hcc bs bu cs cu W h1 h2 h3 h4 h5).mono fun _ _ h => h.no)
          clear ho hcc d0 d1 d2 d3
          go_region_held3 (fun W => Below w3.heap.size w3 W ∧ W.cell? ⟨gb, 0, none⟩ = some (.int .i64 b1) ∧ W.cell? ⟨gb, 1, none⟩ = some (.int .i64 b2) ∧ W.cell? ⟨gb, 2, none⟩ = some (.int .i64 b3) ∧ W.cell? ⟨gb, 3, none⟩ = some (.int .i64 b4)) (first | assumption | exact sr_alloc _ hgb (by assumption) | exact sr_below (by assumption) hgb (by assumption)) (first
            | (refine step_append_grows rfl (.tmp 35) (.tmp 37) 32 rfl 3 i3 (.int .i64 0) 1 8 Try.underlying32 J0 J1 J2 J3 rfl (by decide) none 0 0 [] rfl (fun _ => ⟨rfl, rfl⟩) rfl (fun b hb => by cases hb) _ 1 1 [.int .i64 (j : Int)] rfl rfl (sr_new (cs := #[.int .i64 (j : Int)]) (e := 3) (by first | exact heap_alloc_new _ _ | exact (Below.heap_alloc _ _ _ (by simp)).trans (heap_alloc_new _ _) | exact HK3.out)) (by simp [Value.oneCell']) (by omega) (by unfold maxLen; omega) (by omega) ?_; intro v7 w7 hown7 hgr7; have B7 := below_grow hgr7; obtain ⟨g7, cap7, rfl, hbg7, hlt7⟩ := hown7.form (by omega); have O7 := Lib.hid hown7; clear hown7 hgr7)
            | (refine step_append_grows rfl (.tmp 42) (.tmp 44) 45 rfl 23 i23 (.agg #[.int .i64 0, .int .i64 0, .int .i64 0, .int .i64 0]) 4 32 Try.underlying45 E0 E1 E2 E3 rfl (by decide) none 0 0 [] rfl (fun _ => ⟨rfl, rfl⟩) rfl (fun b hb => by cases hb) _ 1 1 [.int .i64 b1, .int .i64 b2, .int .i64 b3, .int .i64 b4] rfl rfl (sr_new (cs := #[.int .i64 b1, .int .i64 b2, .int .i64 b3, .int .i64 b4]) (e := 23) (by first | exact heap_alloc_new _ _ | exact (B7.block _ (by simp <;> omega)).trans ((Below.heap_alloc _ _ _ (by simp)).trans (heap_alloc_new _ _)) | exact (B7.block _ HK2.out).trans HK1.out)) (by simp [Value.oneCell']) (by omega) (by unfold maxLen; omega) (by omega) ?_; intro v14 w14 hown14 hgr14; have B14 := below_grow hgr14; obtain ⟨g14, cap14, rfl, hbg14, hlt14⟩ := hown14.form (by omega); have O14 := Lib.hid hown14; clear hown14 hgr14)
            | (go_at_call 19; go_loud (refine (HC.out ⟨g7, 0, none⟩ ⟨g14, 0, none⟩ cap7 cap14 _ (sr_items HA.out B3.out (by assumption)) (Sl_rows (k := 1) (fun _ => rfl) (own_below (show w7.ownsRow _ _ _ _ _ (rowsV intV1 ([] ++ [(j : Int)])) by rw [rowsV_append]; exact O7.out) (show Below w7.heap.size w7 _ by first | exact B14 | exact ((Below.refl _ w7).alloc (Nat.le_refl _) _).trans (B14.mono (by simp))) (Nat.le_refl _)) HLs.out (by decide)) (Sl_rows (k := 4) (fun _ => rfl) (show w14.ownsRow _ _ _ _ _ (rowsV bxV ([] ++ [⟨b1, b2, b3, b4⟩])) by rw [rowsV_append]; exact O14.out) HLu.out (by decide)) (own_cap O7.out).1 (own_cap O14.out).1).mono ?_; rintro e w15 ⟨rfl, hb15⟩)))
          all_goals
            go_wp2_with fail
            go_roundw
            case rel => exact ⟨j + 1, by omega, by go_num, Lib.hid (by rw [HK.out, HKN.out]; rfl), sr_out B3.out (by assumption)⟩
            case measure => simp [intOf]; omega
        | some out =>
          rw [ho] at HKN hcc
          have HC := Lib.hid (fun bs bu cs cu W h1 h2 h3 h4 h5 => (hcc bs bu cs cu W h1 h2 h3 h4 h5).mono fun _ _ h => h.yes)
          clear ho hcc d0 d1 d2 d3
          go_region_held3 (fun W => Below w3.heap.size w3 W ∧ W.cell? ⟨gb, 0, none⟩ = some (.int .i64 b1) ∧ W.cell? ⟨gb, 1, none⟩ = some (.int .i64 b2) ∧ W.cell? ⟨gb, 2, none⟩ = some (.int .i64 b3) ∧ W.cell? ⟨gb, 3, none⟩ = some (.int .i64 b4)) (first | assumption | exact sr_alloc _ hgb (by assumption) | exact sr_below (by assumption) hgb (by assumption)) (first
            | (refine step_append_grows rfl (.tmp 35) (.tmp 37) 32 rfl 3 i3 (.int .i64 0) 1 8 Try.underlying32 J0 J1 J2 J3 rfl (by decide) none 0 0 [] rfl (fun _ => ⟨rfl, rfl⟩) rfl (fun b hb => by cases hb) _ 1 1 [.int .i64 (j : Int)] rfl rfl (sr_new (cs := #[.int .i64 (j : Int)]) (e := 3) (by first | exact heap_alloc_new _ _ | exact (Below.heap_alloc _ _ _ (by simp)).trans (heap_alloc_new _ _) | exact HK3.out)) (by simp [Value.oneCell']) (by omega) (by unfold maxLen; omega) (by omega) ?_; intro v7 w7 hown7 hgr7; have B7 := below_grow hgr7; obtain ⟨g7, cap7, rfl, hbg7, hlt7⟩ := hown7.form (by omega); have O7 := Lib.hid hown7; clear hown7 hgr7)
            | (refine step_append_grows rfl (.tmp 42) (.tmp 44) 45 rfl 23 i23 (.agg #[.int .i64 0, .int .i64 0, .int .i64 0, .int .i64 0]) 4 32 Try.underlying45 E0 E1 E2 E3 rfl (by decide) none 0 0 [] rfl (fun _ => ⟨rfl, rfl⟩) rfl (fun b hb => by cases hb) _ 1 1 [.int .i64 b1, .int .i64 b2, .int .i64 b3, .int .i64 b4] rfl rfl (sr_new (cs := #[.int .i64 b1, .int .i64 b2, .int .i64 b3, .int .i64 b4]) (e := 23) (by first | exact heap_alloc_new _ _ | exact (B7.block _ (by simp <;> omega)).trans ((Below.heap_alloc _ _ _ (by simp)).trans (heap_alloc_new _ _)) | exact (B7.block _ HK2.out).trans HK1.out)) (by simp [Value.oneCell']) (by omega) (by unfold maxLen; omega) (by omega) ?_; intro v14 w14 hown14 hgr14; have B14 := below_grow hgr14; obtain ⟨g14, cap14, rfl, hbg14, hlt14⟩ := hown14.form (by omega); have O14 := Lib.hid hown14; clear hown14 hgr14)
            | (go_at_call 19; go_loud (refine (HC.out ⟨g7, 0, none⟩ ⟨g14, 0, none⟩ cap7 cap14 _ (sr_items HA.out B3.out (by assumption)) (Sl_rows (k := 1) (fun _ => rfl) (own_below (show w7.ownsRow _ _ _ _ _ (rowsV intV1 ([] ++ [(j : Int)])) by rw [rowsV_append]; exact O7.out) (show Below w7.heap.size w7 _ by first | exact B14 | exact ((Below.refl _ w7).alloc (Nat.le_refl _) _).trans (B14.mono (by simp))) (Nat.le_refl _)) HLs.out (by decide)) (Sl_rows (k := 4) (fun _ => rfl) (show w14.ownsRow _ _ _ _ _ (rowsV bxV ([] ++ [⟨b1, b2, b3, b4⟩])) by rw [rowsV_append]; exact O14.out) HLu.out (by decide)) (own_cap O7.out).1 (own_cap O14.out).1).mono ?_; rintro e w15 ⟨A15, c15, rfl, hs15, hb15⟩; have S15 := Lib.hid hs15; clear hs15)))
          all_goals
            go_wp2_with fail
            go_ret
            have hR : R = some out := HK.out.trans (HKN.out.trans rfl)
            subst hR
            exact ⟨some A15, c15, rfl, (fun h => by cases h), (fun _ h => by cases h), S15.out, sr_out B3.out (by assumption)⟩
    · obtain rfl : j = 8 := by omega
      have HBe := Lib.hid hbr
      have hR : R = none := HK.out.trans rfl
      subst hR
      clear hbr
      go_wp2_with fail
      go_ret
      exact ⟨none, 0, rfl, fun _ => ⟨rfl, rfl⟩, (fun h => by cases h), Sl.none_, HBe.out⟩

theorem search_end (A : Option Addr) (N cl : Nat) (l : List It) (bs bu : Addr) (cs cu : Nat) (s : List Int) (u : List Bx) (w : World) (_ : 0 < N)
    (hS : Sl w w.heap.size 1 (some bs) N (fun i => intV1 s[i]!)) (hsl : s.length = N) :
    Calls Try.prog 19 #[.slice A N cl, .slice (some bs) N cs, .slice (some bu) N cu] w (SrchP (srch l 0 s u) w) := by
  have HS := Lib.hid hS
  have HL := Lib.hid hsl
  clear hS hsl
  go_enter Try.func19, Try.ntmps19
  go_wp2
  go_ret
  refine ⟨some bs, cs, ?_, (fun h => by cases h), (fun _ h => by cases h), ?_, Below.refl _ _⟩
  · show _ = Ending.returned (.slice (some bs) s.length cs)
    rw [HL.out]; rfl
  · show Sl w w.heap.size 1 (some bs) s.length (fun i => intV1 s[i]!)
    rw [HL.out]; exact HS.out
theorem search_all (A : Option Addr) (N cl : Nat) (l : List It) (hl : l.length = N) (hN : N ≤ 6) : ∀ (f n : Nat), n + f = N → 0 < n → ∀ (bs bu : Addr) (cs cu : Nat) (s : List Int) (u : List Bx) (w : World), Sl w w.heap.size 4 A N (fun i => itV l[i]!) → Sl w w.heap.size 1 (some bs) n (fun i => intV1 s[i]!) → Sl w w.heap.size 4 (some bu) n (fun i => bxV u[i]!) → s.length = n → u.length = n → n ≤ cs → n ≤ cu →
      Calls Try.prog 19 #[.slice A N cl, .slice (some bs) n cs, .slice (some bu) n cu] w (SrchP (srch l f s u) w)
  | 0, n, hn, hn0, bs, bu, cs, cu, s, u, w, _, hS, _, hsl, _, _, _ => by
    obtain rfl : n = N := by omega
    exact search_end A n cl l bs bu cs cu s u w hn0 hS hsl
  | f + 1, n, hn, hn0, bs, bu, cs, cu, s, u, w, hA, hS, hU, hsl, hul, hcs, hcu =>
    search_some A N cl l f bs bu n cs cu s u w hl hN hA hS hU hsl hul hcs hcu hn0 hn (fun bs bu cs cu s u w h1 h2 h3 h4 h5 h6 h7 => search_all A N cl l hl hN f (n + 1) (by omega) (by omega) bs bu cs cu s u w h1 h2 h3 h4 h5 h6 h7)
theorem search_any (A : Option Addr) (N cl : Nat) (l : List It) (w : World) (hl : l.length = N) (hN : N ≤ 6) (hN0 : 0 < N) (hA : Sl w w.heap.size 4 A N (fun i => itV l[i]!)) :
    Calls Try.prog 19 #[.slice A N cl, .slice none 0 0, .slice none 0 0] w (SrchP (srch l N [] []) w) := by
  obtain ⟨f, rfl⟩ : ∃ f, N = f + 1 := ⟨N - 1, by omega⟩
  exact search_nil A (f + 1) cl l f w hl hN hA rfl (fun bs bu cs cu s u w h1 h2 h3 h4 h5 h6 h7 => search_all A (f + 1) cl l hl hN f 1 (by omega) (by omega) bs bu cs cu s u w h1 h2 h3 h4 h5 h6 h7)
end Go.Proofs.Ytpnihjomemojlaa
