/- The walk of RulesFront. -/
import Derived.Test.YtdmecagdjbjgjaaR34
import Derived.Test.YtdmecagdjbjgjaaR33
import Derived.Test.YtdmecagdjbjgjaaR24
namespace Go.Proofs.Ytdmecagdjbjgjaa
open Go.RowKit

theorem filt_take {p : Al → Bool} {L : List Al} {i : Nat} (hi : i < L.length) : (L.take (i + 1)).filter p = (L.take i).filter p ++ if p L[i]! = true then [L[i]!] else [] := by
  rw [List.take_succ_eq_append_getElem hi, List.filter_append, ← getElem!_pos L i hi]
  congr 1
  by_cases h : p L[i]! = true
  · rw [if_pos h, List.filter_cons, if_pos h]; rfl
  · rw [if_neg h, List.filter_cons, if_neg h]; rfl

set_option maxRecDepth 100000 in
set_option maxHeartbeats 16000000 in
theorem Front_walk (A : Option Addr) (n c : Nat) (f : Nat → Int) (s : Sc) (nn : Int) (w : World) (hA : Sl w w.heap.size 1 A n (fun i => [.int .i64 (f i)])) (hnc : n ≤ c) (hcm : c ≤ maxLen) (hS : s.at_ w w.heap.size) :
    Calls Try.prog 4 #[.slice A n c, s.val, .int .i64 nn] w fun E w' => E = .returned (.bool true) ∧ Below w.heap.size w w' := by
  obtain ⟨w1, hw1⟩ : ∃ W, w.alloc (.cells #[.int .i64 s.tm, .slice s.A s.n s.c, .slice s.B s.m s.d] 25) = W := ⟨_, rfl⟩
  have hb1 : Below w.heap.size w w1 := by rw [← hw1]; exact (Below.refl _ _).alloc (Nat.le_refl _) _
  have hyg : w1.heap[w.heap.size]? = some (.cells #[.int .i64 s.tm, .slice s.A s.n s.c, .slice s.B s.m s.d] 25 (0, 0)) := by rw [← hw1]; exact heap_alloc_new _ _
  have hl0 : w.heap.size < w1.heap.size := by rw [← hw1]; simp
  have HCH := Lib.hid (Check_any s w1 (hS.step hb1))
  have HST := Lib.hid (fun W (h : Below w.heap.size w W) => hS.step h)
  have HFA := Lib.hid fact_any
  have HSV := Lib.hid (fun W (h : Below w.heap.size w W) => several_any A n c f W ((hA.below h).more h.size) hnc hcm)
  have HFE := Lib.hid (fun (h : checkE s = 0) k (hk : k ≤ s.n) => few_check h hk)
  have HCK := Lib.hid (fun h : checkE s = 0 => (checkE_zero h).1)
  have hnc' := hS.1
  have HCE : Hid (checkE s = checkE s) := Lib.hid rfl
  obtain ⟨ce, hce0⟩ : ∃ x, checkE s = x := ⟨_, rfl⟩
  have HCE := Lib.hid hce0
  rw [hce0] at HCH
  unfold SevP at HSV
  clear hA hS hce0
  obtain ⟨g, hg⟩ : ∃ g, w.heap.size = g := ⟨_, rfl⟩
  have HG := Lib.hid hg
  rw [hg] at hyg hl0
  have HB1 := Lib.hid hb1
  have HY := Lib.hid hyg
  have a0 : w1.cell? ⟨g, 0, none⟩ = some (.int .i64 s.tm) := cell_of_row w1 _ 0 _ 25 (0, 0) hyg
  have a1 : w1.cell? ⟨g, 1, none⟩ = some (.slice s.A s.n s.c) := cell_of_row w1 _ 1 _ 25 (0, 0) hyg
  have a2 : w1.cell? ⟨g, 2, none⟩ = some (.slice s.B s.m s.d) := cell_of_row w1 _ 2 _ 25 (0, 0) hyg
  clear hb1 hyg
  by_cases hce : ce = 0
  · subst hce
    have hn32 := HCK.out HCE.out
    have C1 := Lib.hid (fun W => Cut_any nn 0 (s.n : Int) W (by omega) (by omega) (by omega))
    have hkb := cutI_bd (n := nn) (show (0 : Int) ≤ (s.n : Int) by omega)
    generalize cutI nn 0 (s.n : Int) = k0 at *
    obtain ⟨k, rfl⟩ : ∃ k : Nat, k0 = (k : Int) := ⟨k0.toNat, by omega⟩
    have hk : k ≤ s.n := by omega
    have hkc : k ≤ s.c := by omega
    have hkn : (k : Int) ≤ (s.n : Int) := by omega
    have hk0 : (0 : Int) ≤ (k : Int) := by omega
    have HFS := Lib.hid (fun W (h : Below w.heap.size w W) => few_at (HST.out W h) hk)
    have HCK2 := Lib.hid (HFE.out HCE.out k hk)
    have HGOOD : Hid (∀ AF nm, Good AF nm → AF (few s k) = (AF s).filter (inF k) ∧ (AF s).length ≤ 1024) := Lib.hid (fun AF nm h => ⟨h.front s k HCE.out hk, h.len s⟩)
    have HFV : Hid ((few s k).val = .agg #[.int .i64 s.tm, .slice s.A k s.c, .slice s.B s.m s.d]) := Lib.hid rfl
    have HVV : Hid (s.val = .agg #[.int .i64 s.tm, .slice s.A s.n s.c, .slice s.B s.m s.d]) := Lib.hid rfl
    rw [HVV.out] at HCH ⊢
    generalize few s k = sk at *
    clear HFE HCK
    obtain ⟨i51, E0, E1, E2, E3⟩ := info_parts alert_info
    go_enter Try.func4, Try.ntmps4
    go_wp2_with (first
      | (go_at_call 10; go_loud (refine HCH.out.mono ?_; rintro E w2 ⟨rfl, hb2⟩; have HB2 := Lib.hid hb2; have u2 := (hb2.block g hl0).trans HY.out; have b0 := cell_of_row w2 _ 0 _ 25 (0, 0) u2; have b1 := cell_of_row w2 _ 1 _ 25 (0, 0) u2; have b2 := cell_of_row w2 _ 2 _ 25 (0, 0) u2; simp only [List.getElem?_toArray, List.getElem?_cons_zero, List.getElem?_cons_succ] at b0 b1 b2; have hl2 : g < w2.heap.size := Nat.lt_of_lt_of_le hl0 hb2.size; have HY2 := Lib.hid u2; have hne2 : g ≠ w2.heap.size := Nat.ne_of_lt hl2; clear hb2 u2))
      | (go_at_call 7; go_loud (refine (C1.out _).mono ?_; rintro E w3 ⟨rfl, rfl⟩))
      | (go_at_call 14; go_loud (refine (HSV.out _ ((HB1.out.trans (HB2.out.mono HB1.out.size)).alloc (HB1.out.trans (HB2.out.mono HB1.out.size)).size _)).mono ?_; rintro E w4 ⟨V, m, cv, Rl, rfl, hm, hl, ho, hr, hb4⟩; have hz4 := hb4.size; simp at hz4; have HW4 := Lib.hid ((((HB1.out.trans (HB2.out.mono HB1.out.size)).alloc (HB1.out.trans (HB2.out.mono HB1.out.size)).size _)).trans (hb4.mono (((HB1.out.trans (HB2.out.mono HB1.out.size)).alloc (HB1.out.trans (HB2.out.mono HB1.out.size)).size _)).size)); have HFew := Lib.hid ((hb4.block w2.heap.size (by simp)).trans (heap_alloc_new w2 _)); have HSc := Lib.hid ((hb4.block g (by simp; omega)).trans ((Below.heap_alloc _ _ g hl2).trans HY2.out)); have HL := Lib.hid hl; have HO := Lib.hid ho; have HRM := Lib.hid hr; clear hb4 hl ho hr)))
    obtain ⟨wb, rfl⟩ : ∃ wb, wb = w4 := ⟨_, rfl⟩
    obtain ⟨h, hh⟩ : ∃ h, w2.heap.size = h := ⟨_, rfl⟩
    rw [hh] at HFew ⊢
    have hhb : h < wb.heap.size := (Array.getElem?_eq_some_iff.1 HFew.out).1
    have hgb : g < wb.heap.size := (Array.getElem?_eq_some_iff.1 HSc.out).1
    have hm0 : (0 : Int) ≤ (m : Int) := by omega
    clear b0 b1 b2 a0 a1 a2 hh hz4 hl2 hne2
    go_loopw [31] (fun x wr => ∃ j : Nat, j ≤ m ∧ x = .int .i64 (j : Int) ∧ Hid (Below wb.heap.size wb wr)) (fun x _ => m - (intOf x).toNat)
    case atStart => exact ⟨0, by omega, rfl, Lib.hid (Below.refl _ _)⟩
    case round =>
      obtain ⟨j, hj, rfl, HB⟩ := hrel
      have hzr := HB.out.size
      by_cases hlt : j < m
      · obtain ⟨gv, cp, hv, hbv, hlv⟩ := HO.out.form (by omega)
        obtain rfl : V = some ⟨gv, 0, none⟩ := by injection hv
        have hjl : j < Rl.length := by rw [HL.out]; exact hlt
        obtain ⟨AF, nm, hG, hgood⟩ := (HRM.out Rl[j] (List.getElem_mem hjl)).ok
        have d0 : wr.cell? ⟨gv, j, none⟩ = some Rl[j] := (HB.out.cell (p := ⟨gv, j, none⟩) hlv).trans (by
          have := HO.out.cells rfl j Rl[j] (List.getElem?_eq_getElem hjl)
          rwa [Addr.add_mid, Nat.zero_add] at this)
        obtain ⟨hfil, hlen⟩ := HGOOD.out AF nm hgood
        have HFIL := Lib.hid hfil
        have hGr := hG.below HB.out
        have HWr := Lib.hid (HW4.out.trans (HB.out.mono HW4.out.size))
        have yg := (HB.out.block g hgb).trans HSc.out
        have p0 := cell_of_row wr _ 0 _ 25 (0, 0) yg
        have p1 := cell_of_row wr _ 1 _ 25 (0, 0) yg
        have p2 := cell_of_row wr _ 2 _ 25 (0, 0) yg
        simp only [List.getElem?_toArray, List.getElem?_cons_zero, List.getElem?_cons_succ] at p0 p1 p2
        have HYh := Lib.hid ((HB.out.block h hhb).trans HFew.out)
        have hhr : h < wr.heap.size := by omega
        have l1 : (j : Int) < (m : Int) := by omega
        have l0 : (0 : Int) ≤ (j : Int) := by omega
        have hwj : IntKind.i64.wrap ((j : Int) + 1) = (j : Int) + 1 := IntWalk.i64_in _ (by omega)
        obtain ⟨L, hL⟩ : ∃ L, AF s = L := ⟨_, rfl⟩
        rw [hL] at hlen
        obtain ⟨wo, rfl⟩ : ∃ wo, wo = wr := ⟨_, rfl⟩
        clear hfil yg hv
        rcases hGr with ⟨lv, x1, x2, he, hcl⟩ | ⟨lv, x1, x2, he, hcl⟩
        all_goals
          rw [he] at d0
          have HC1 := Lib.hid (hcl s wo (Below.refl _ _) (HST.out wo HWr.out))
          have HC2 := Lib.hid (fun W (hW : Below wo.heap.size wo W) => hcl sk W hW (HFS.out W (HWr.out.trans (hW.mono HWr.out.size))))
          rw [HVV.out, hL] at HC1
          rw [HFV.out] at HC2
          unfold AlsP at HC1 HC2
          have HFI : Hid (AF sk = L.filter (inF k)) := Lib.hid (by rw [HFIL.out, hL])
          rw [HFI.out] at HC2
          obtain ⟨q, hq⟩ : ∃ q, L.length = q := ⟨_, rfl⟩
          rw [hq] at HC1 hlen
          have HQ := Lib.hid hq
          clear hcl he hq
          have hq0 : (0 : Int) ≤ (q : Int) := by omega
          go_wp2_with (first
            | (go_at_call 106; go_loud (refine HC1.out.mono ?_; rintro E w5 ⟨⟨V1, cv1, rfl, ho1⟩, hb5⟩; have HS1 := Lib.hid (Sl_rows alL_len ho1 HQ.out (by decide)); have HB5 := Lib.hid hb5; have hz5 := hb5.size; clear ho1 hb5))
            | (go_at_call 108; go_loud (refine HC1.out.mono ?_; rintro E w5 ⟨⟨V1, cv1, rfl, ho1⟩, hb5⟩; have HS1 := Lib.hid (Sl_rows alL_len ho1 HQ.out (by decide)); have HB5 := Lib.hid hb5; have hz5 := hb5.size; clear ho1 hb5)))
          obtain ⟨w6, rfl⟩ : ∃ w6, w6 = w5 := ⟨_, rfl⟩
          go_loopw [10, 39] (fun v x wr => ∃ (i m1 : Nat) (U : Option Addr) (cu : Nat), i ≤ q ∧ m1 ≤ i ∧ x = .int .i64 (i : Int) ∧ v = .slice U m1 cu ∧ Hid (((L.take i).filter (inF k)).length = m1) ∧ Hid (wr.ownsRow w6.heap.size 51 4 (.slice U m1 cu) m1 (rowsV alL ((L.take i).filter (inF k)))) ∧ Hid (Below w6.heap.size w6 wr)) (fun _ x _ => q - (intOf x).toNat)
          case atStart => exact ⟨0, 0, none, 0, by omega, Nat.le_refl _, rfl, rfl, Lib.hid (by rw [List.take_zero]; rfl), Lib.hid (by rw [List.take_zero]; exact World.ownsRow_nil _ _ _ _), Lib.hid (Below.refl _ _)⟩
          case round =>
            obtain ⟨i, m1, U, cu, hi, hm1, rfl, rfl, HM, HO6, HB6⟩ := hrel
            have hz6 := HB6.out.size
            by_cases hlt : i < q
            · obtain ⟨bb, off, rfl, hbb, hr⟩ := HS1.out (by omega)
              have hcs : ∀ t v, (alL L[i]!)[t]? = some v → wr.cell? ⟨bb, off + i * 4 + t, none⟩ = some v := fun t v hv => (HB6.out.cell (p := ⟨bb, off + i * 4 + t, none⟩) hbb).trans (hr i hlt t v hv)
              have HST6 := Lib.hid (filt_take (p := inF k) (L := L) (i := i) (by rw [HQ.out]; exact hlt))
              have HIN : Hid (inF k L[i]! = (decide (L[i]!.a < k) && decide (L[i]!.b < k))) := Lib.hid rfl
              generalize L[i]! = y at *
              obtain ⟨y1, y2, y3, y4⟩ := y
              have e0 : wr.cell? ⟨bb, off + i * 4, none⟩ = some (.string y1) := hcs 0 _ rfl
              have e1 : wr.cell? ⟨bb, off + i * 4 + 1, none⟩ = some (.int .i64 y2) := hcs 1 _ rfl
              have e2 : wr.cell? ⟨bb, off + i * 4 + 2, none⟩ = some (.int .i64 y3) := hcs 2 _ rfl
              have e3 : wr.cell? ⟨bb, off + i * 4 + 3, none⟩ = some (.int .i64 y4) := hcs 3 _ rfl
              clear hcs hr
              dsimp only at HIN
              have l1 : (i : Int) < (q : Int) := by omega
              have l0 : (0 : Int) ≤ (i : Int) := by omega
              have hwi : IntKind.i64.wrap ((i : Int) + 1) = (i : Int) + 1 := IntWalk.i64_in _ (by omega)
              have hno : ∀ W, Below wr.heap.size wr W → _ := fun W hW => own_below HO6.out hW (Nat.le_refl _)
              by_cases hy : y3 < (k : Int) ∧ y4 < (k : Int)
              · have t1 : decide (y3 < (k : Int)) = true := decide_eq_true hy.1
                have t2 : decide (y4 < (k : Int)) = true := decide_eq_true hy.2
                rw [HIN.out, t1, t2, if_pos (by simp)] at HST6
                clear hy hno
                go_wp2_with (at_builtin; go_loud (refine wpList_append_oneN (wr.alloc (.cells #[.string y1, .int .i64 y2, .int .i64 y3, .int .i64 y4] 51)) (wr.heap.size + 1) (by simp) #[.string y1, .int .i64 y2, .int .i64 y3, .int .i64 y4] rfl (.tmp 53) (.tmp 55) 35 rfl w6.heap.size 51 i51 (.agg #[.string ByteArray.empty, .int .i64 0, .int .i64 0, .int .i64 0]) 4 40 Try.underlying35 E0 E1 E2 E3 rfl (by decide) (.slice U m1 cu) m1 _ rfl (HO6.out.alloc _) rfl rfl (by simp [Value.oneCell']) (by omega) (by decide) (by simp; omega) ?_); intro g8 cap8 w8 hv8 hg8 hat8 hlt8)
                go_roundw
                case rel =>
                  refine ⟨i + 1, m1 + 1, some ⟨g8, 0, none⟩, cap8, by omega, by omega, by go_num, rfl, ?_, ?_, ?_⟩
                  · rw [HST6.out]; exact Lib.hid (by rw [List.length_append, HM.out]; rfl)
                  · rw [HST6.out, rowsV_append]; exact Lib.hid hv8
                  · exact Lib.hid (below_app (HB6.out.alloc hz6 _) (by simp; omega) (HO6.out.alloc _) (Nat.le_refl _) hg8)
                case measure => simp [intOf]; omega
              · have hnf : inF k ⟨y1, y2, y3, y4⟩ = false := by rw [HIN.out]; simp; omega
                rw [hnf, if_neg (by simp), List.append_nil] at HST6
                have HNY := Lib.hid hy
                clear hnf hno hy
                by_cases h3 : y3 < (k : Int)
                · have t1 : decide (y3 < (k : Int)) = true := decide_eq_true h3
                  have t2 : decide (y4 < (k : Int)) = false := decide_eq_false (fun h4 => HNY.out ⟨h3, h4⟩)
                  clear h3
                  go_wp2_with fail
                  go_roundw
                  case rel => exact ⟨i + 1, m1, U, cu, by omega, by omega, by go_num, rfl, by rw [HST6.out]; exact HM, by rw [HST6.out]; exact Lib.hid (HO6.out.alloc _), Lib.hid (HB6.out.alloc hz6 _)⟩
                  case measure => simp [intOf]; omega
                · have t1 : decide (y3 < (k : Int)) = false := decide_eq_false h3
                  clear h3
                  go_wp2_with fail
                  go_roundw
                  case rel => exact ⟨i + 1, m1, U, cu, by omega, by omega, by go_num, rfl, by rw [HST6.out]; exact HM, by rw [HST6.out]; exact Lib.hid (HO6.out.alloc _), Lib.hid (HB6.out.alloc hz6 _)⟩
                  case measure => simp [intOf]; omega
            · obtain rfl : i = q := by omega
              have HBo := Lib.hid (HB5.out.trans (HB6.out.mono hz5))
              have hwz := HBo.out.size
              have yh := (HBo.out.block h hhr).trans HYh.out
              have f0 := cell_of_row wr _ 0 _ 25 (0, 0) yh
              have f1 := cell_of_row wr _ 1 _ 25 (0, 0) yh
              have f2 := cell_of_row wr _ 2 _ 25 (0, 0) yh
              simp only [List.getElem?_toArray, List.getElem?_cons_zero, List.getElem?_cons_succ] at f0 f1 f2
              have ht : L.take i = L := by rw [← HQ.out, List.take_length]
              rw [ht] at HM HO6
              have HSw := Lib.hid (Sl_rows alL_len HO6.out HM.out (by decide))
              have HC3 := Lib.hid (HC2.out wr HBo.out)
              rw [HM.out] at HC3
              have HMM := Lib.hid (show (L.filter (inF k)).length = m1 from HM.out)
              have HBB := Lib.hid (HB.out.trans (HBo.out.mono hzr))
              clear yh ht
              go_wp2_with (first
                | (go_at_call 106; go_loud (refine HC3.out.mono ?_; rintro E w7 ⟨⟨V7, cv7, rfl, ho7⟩, hb7⟩; have HEq := Lib.hid (Equal_same V7 U m1 cv7 cu (L.filter (inF k)) w7 (Sl_rows alL_len ho7 HMM.out (by decide)) ((HSw.out.below hb7).more hb7.size) (by omega)); have HB7 := Lib.hid (HBB.out.trans (hb7.mono HBB.out.size)); clear ho7 hb7))
                | (go_at_call 108; go_loud (refine HC3.out.mono ?_; rintro E w7 ⟨⟨V7, cv7, rfl, ho7⟩, hb7⟩; have HEq := Lib.hid (Equal_same V7 U m1 cv7 cu (L.filter (inF k)) w7 (Sl_rows alL_len ho7 HMM.out (by decide)) ((HSw.out.below hb7).more hb7.size) (by omega)); have HB7 := Lib.hid (HBB.out.trans (hb7.mono HBB.out.size)); clear ho7 hb7))
                | (go_at_call 15; go_loud (refine HEq.out.mono ?_; rintro E w8 ⟨rfl, hb8⟩; have HB8 := Lib.hid (HB7.out.trans (hb8.mono HB7.out.size)); clear hb8)))
              go_roundw
              case rel => exact ⟨j + 1, by omega, by go_num, HB8⟩
              case measure => simp [intOf]; omega
      · obtain rfl : m = j := by omega
        have HWr := Lib.hid (HW4.out.trans (HB.out.mono HW4.out.size))
        go_wp2_with (go_at_call 9; go_loud (refine (HFA.out _).mono ?_; rintro E w9 ⟨rfl, hb9⟩; have HB9 := Lib.hid (HWr.out.trans (hb9.mono HWr.out.size)); clear hb9))
        go_ret
        exact ⟨rfl, by first | exact HB9.out | (rw [← HG.out]; exact HB9.out)⟩
  · have hpd : (ce == 0) = false := beq_eq_false_iff_ne.2 hce
    have hpe : (ce != 0) = true := bne_iff_ne.2 hce
    rw [show s.val = .agg #[.int .i64 s.tm, .slice s.A s.n s.c, .slice s.B s.m s.d] from rfl] at HCH ⊢
    clear HST HSV HFE HCK HCE
    go_enter Try.func4, Try.ntmps4
    go_wp2_with (first
      | (go_at_call 10; go_loud (refine HCH.out.mono ?_; rintro E w2 ⟨rfl, hb2⟩; have HB2 := Lib.hid (HB1.out.trans (hb2.mono HB1.out.size)); clear hb2))
      | (go_at_call 9; go_loud (refine (HFA.out _).mono ?_; rintro E w3 ⟨rfl, hb3⟩; have HB3 := Lib.hid (HB2.out.trans (hb3.mono HB2.out.size)); clear hb3)))
    go_ret
    exact ⟨rfl, by first | exact HB3.out | (rw [← HG.out]; exact HB3.out)⟩
end Go.Proofs.Ytdmecagdjbjgjaa
