/- Package screen: the walk of ScreenShows. -/
import Derived.Test.YtlkdjnmehnibmaaH2
namespace Go.Proofs.Ytlkdjnmehnibmaa
open Go.RowKit

theorem firstBad (f : Nat → Int × Int) : ∀ n, (∃ i, i < n ∧ ptE (f i).1 (f i).2 = 4) → ∃ k, k < n ∧ (∀ i, i < k → ptE (f i).1 (f i).2 = 0) ∧ ptE (f k).1 (f k).2 = 4
  | 0, h => by obtain ⟨i, hi, _⟩ := h; omega
  | n + 1, h => by
    by_cases hp : ∃ i, i < n ∧ ptE (f i).1 (f i).2 = 4
    · obtain ⟨k, h1, h2, h3⟩ := firstBad f n hp
      exact ⟨k, by omega, h2, h3⟩
    · obtain ⟨i, hi, h4⟩ := h
      have : i = n := by
        rcases Nat.lt_or_ge i n with h' | h'
        · exact absurd ⟨i, h', h4⟩ hp
        · omega
      subst this
      refine ⟨i, by omega, fun j hj => ?_, h4⟩
      rcases ptE_cases (f j).1 (f j).2 with h | h
      · exact h
      · exact absurd ⟨j, hj, h⟩ hp

theorem flat_list (l : List (Int × Int)) (x : Int × Int) : flatR (ptRow fun i => l[i]!) l.length ++ (#[Value.int .i64 x.1, Value.int .i64 x.2]).toList = flatR (ptRow fun i => (l ++ [x])[i]!) (l.length + 1) := by
  rw [flatR_succ]
  congr 1
  · unfold flatR
    refine congrArg List.flatten (List.map_congr_left fun i hi => ?_)
    have hl := List.mem_range.1 hi
    unfold ptRow
    dsimp only
    rw [getElem!_pos l i hl, getElem!_pos (l ++ [x]) i (by rw [List.length_append]; omega), List.getElem_append_left hl]
  · unfold ptRow
    dsimp only
    rw [getElem!_pos (l ++ [x]) l.length (by rw [List.length_append]; simp)]
    simp
theorem seenL_in {wd ht : Nat} {p : Nat → Int × Int} {k : Nat} (h : (0 ≤ (p k).1 ∧ (p k).1 < (wd : Int) ∧ 0 ≤ (p k).2 ∧ (p k).2 < (ht : Int)) ∧ p k ∉ seenL wd ht p k) : seenL wd ht p (k + 1) = seenL wd ht p k ++ [p k] := by rw [seenL, if_pos h]
theorem seenL_out {wd ht : Nat} {p : Nat → Int × Int} {k : Nat} (h : ¬ ((0 ≤ (p k).1 ∧ (p k).1 < (wd : Int) ∧ 0 ≤ (p k).2 ∧ (p k).2 < (ht : Int)) ∧ p k ∉ seenL wd ht p k)) : seenL wd ht p (k + 1) = seenL wd ht p k := by rw [seenL, if_neg h]
theorem mem_iff_at (l : List (Int × Int)) (q : Int × Int) : q ∈ l ↔ ∃ i, i < l.length ∧ l[i]! = q := by
  rw [List.mem_iff_getElem]
  constructor
  · rintro ⟨i, hi, e⟩; exact ⟨i, hi, by rw [getElem!_pos l i hi]; exact e⟩
  · rintro ⟨i, hi, e⟩; exact ⟨i, hi, by rw [getElem!_pos l i hi] at e; exact e⟩
/-- A cell of a row that shows an o. -/
theorem row_o (wd : Nat) (g : Nat → Int) (xx : Nat) (hx : xx < wd) (hg : g xx = 111) : (rowStr wd g).size = wd ∧ ∀ W : World, (Instr.index 9 (.string (rowStr wd g)) (.int .i64 (xx : Int))).run Try.prog W = .ok (.int .u8 111) W := by
  have hs : (rowStr wd g).size = wd := by
    unfold rowStr
    rw [strOfNums_size, List.length_map, List.length_range]
  refine ⟨hs, fun W => ?_⟩
  rw [run_index_string W 9 (rowStr wd g) .i64 xx Try.underlying9, dif_pos ⟨by omega, by rw [hs]; omega⟩]
  have h1 : (rowStr wd g).data.toList[xx]? = some (UInt8.ofNat (g xx).toNat) := by rw [rowStr_list, List.getElem?_map, List.getElem?_range hx]; rfl
  rw [hg] at h1
  have h2 : (rowStr wd g)[(xx : Int).toNat]'(by rw [hs]; simpa using hx) = 111 := by
    have h3 : (rowStr wd g).data[xx]? = some 111 := by rw [← Array.getElem?_toList]; exact h1
    obtain ⟨h4, h5⟩ := Array.getElem?_eq_some_iff.1 h3
    exact h5
  rw [h2]
  rfl

set_option maxRecDepth 100000 in
set_option maxHeartbeats 4000000 in
theorem Shows_bad (cx cy sc wd ht : Int) (A : Option Addr) (n c N : Nat) (w : World) (hnc : n ≤ c) (hN : N = min n 8)
    (h : ∀ W o, Below w.heap.size w W → Calls Try.prog 25 #[.agg #[.int .i64 cx, .int .i64 cy, .int .i64 sc, .int .i64 wd, .int .i64 ht], .slice none 0 0, .slice A N c] (W.alloc o) fun e w' => e = .returned (.int .i64 4) ∧ Below (W.alloc o).heap.size (W.alloc o) w') :
    Calls Try.prog 7 #[.agg #[.int .i64 cx, .int .i64 cy, .int .i64 sc, .int .i64 wd, .int .i64 ht], .slice A n c] w fun e w' => e = .returned (.bool true) ∧ Below w.heap.size w w' := by
  have hmin : min (n : Int) 8 = (N : Int) := by omega
  have n0 : (0 : Int) ≤ (N : Int) := by omega
  have nc : (N : Int) ≤ (c : Int) := by omega
  have hb1 : Below w.heap.size w (w.alloc (.cells #[.int .i64 cx, .int .i64 cy, .int .i64 sc, .int .i64 wd, .int .i64 ht] 25)) := (Below.refl _ _).alloc (Nat.le_refl _) _
  have HP := Lib.hid (Picture_bad cx cy sc wd ht none A 0 0 N c _ (fun o => h _ o hb1))
  have HB1 := Lib.hid hb1
  clear h hb1 hN
  go_enter Try.func7, Try.ntmps7
  go_wp2_with (first
    | (go_at_call 13; go_loud (refine HP.out.mono ?_; rintro e w1 ⟨rfl, hb1⟩; have HB2 := Lib.hid (HB1.out.trans (hb1.mono HB1.out.size)); clear hb1))
    | (go_at_call 10; go_loud (refine (fact_any _).mono ?_; rintro e w2 ⟨rfl, hb2⟩)))
  go_ret
  exact ⟨rfl, HB2.out.trans (hb2.mono HB2.out.size)⟩

set_option maxRecDepth 100000 in
set_option maxHeartbeats 8000000 in
theorem Shows_ok (cx cy sc : Int) (wd ht : Nat) (A : Option Addr) (n c N : Nat) (f : Nat → Int × Int) (w : World) (hnc : n ≤ c) (hN : N = min n 8) (h1 : -1000000 ≤ cx) (h2 : cx ≤ 1000000) (h3 : -1000000 ≤ cy) (h4 : cy ≤ 1000000) (h5 : 1 ≤ sc) (h6 : sc ≤ 50000) (hsd : sideE wd ht = 0)
    (hA : Sl w w.heap.size 2 A N (ptRow f)) (hf : ∀ i, i < N → PtOk (f i)) :
    Calls Try.prog 7 #[.agg #[.int .i64 cx, .int .i64 cy, .int .i64 sc, .int .i64 wd, .int .i64 ht], .slice A n c] w fun e w' => e = .returned (.bool true) ∧ Below w.heap.size w w' := by
  have hs : 1 ≤ wd ∧ wd ≤ 60 ∧ 1 ≤ ht ∧ ht ≤ 60 := by
    have hb := hsd
    unfold sideE at hb
    by_cases c : 1 ≤ (wd : Int) ∧ (wd : Int) ≤ 60 ∧ 1 ≤ (ht : Int) ∧ (ht : Int) ≤ 60
    · omega
    · rw [if_neg c] at hb; cases hb
  have hmin : min (n : Int) 8 = (N : Int) := by omega
  have n0 : (0 : Int) ≤ (N : Int) := by omega
  have nc : (N : Int) ≤ (c : Int) := by omega
  have hN8 : N ≤ 8 := by omega
  obtain ⟨v, hv⟩ : ∃ v, w.heap.size = v := ⟨_, rfl⟩
  obtain ⟨W0, hW0, g0, hb0⟩ : ∃ W0, w.alloc (.cells #[.int .i64 cx, .int .i64 cy, .int .i64 sc, .int .i64 wd, .int .i64 ht] 25) = W0 ∧ W0.heap[v]? = some (.cells #[.int .i64 cx, .int .i64 cy, .int .i64 sc, .int .i64 wd, .int .i64 ht] 25 (0, 0)) ∧ Below v w W0 :=
    ⟨_, rfl, by rw [← hv]; exact heap_alloc_new w _, (Below.refl v w).alloc (by omega) _⟩
  have hvl : v < W0.heap.size := (Array.getElem?_eq_some_iff.1 g0).1
  obtain ⟨p, hp⟩ : ∃ p : Nat → Int × Int, (fun i => cellOf cx cy sc wd ht (f i)) = p := ⟨_, rfl⟩
  have hpk : ∀ k, (p k).1 = ((f k).1 - cx) / sc + (wd : Int) / 2 ∧ (p k).2 = ((f k).2 - cy) / sc + (ht : Int) / 2 := fun k => by rw [← hp]; exact ⟨rfl, rfl⟩
  have hPic := Picture_pts cx cy sc wd ht A N c f W0 h1 h2 h3 h4 h5 h6 hsd (by rw [hv] at hA; exact (hA.below hb0).more (by omega)) (by omega) hf
  rw [hp] at hPic
  have HPic := Lib.hid hPic
  have HCell := Lib.hid (fun k (hk : k < N) (W : World) => Cell_ok cx cy sc wd ht (f k).1 (f k).2 W h1 h2 h3 h4 h5 h6 hsd ⟨(hf k hk).1, (hf k hk).2.1⟩ (hf k hk).2.2 (p k).1 (p k).2 (hpk k).1 (hpk k).2)
  have HG := Lib.hid (And.intro g0 hb0)
  have HA := Lib.hid hA
  have HS := Lib.hid hs
  have k0 := cell_of_row W0 v 0 _ 25 (0, 0) g0
  have k1 := cell_of_row W0 v 1 _ 25 (0, 0) g0
  have k2 := cell_of_row W0 v 2 _ 25 (0, 0) g0
  have k3 := cell_of_row W0 v 3 _ 25 (0, 0) g0
  have k4 := cell_of_row W0 v 4 _ 25 (0, 0) g0
  have HVe := Lib.hid hv
  clear hPic hp hpk hf hA g0 hb0 h1 h2 h3 h4 h5 h6 hsd hnc hN hs
  go_enter Try.func7, Try.ntmps7
  go_wp2_with (first
    | (go_at_call 13; go_loud (refine HPic.out.mono ?_; rintro e w1 ⟨S, cS, rfl, hown1, hb1⟩; have HS1 := Lib.hid (Sl_strs hown1); have HC1 := Lib.hid (own_cap hown1).1; have HB1 := Lib.hid (HG.out.2.trans (hb1.mono (by omega))); have HV1 := Lib.hid ((hb1.block v hvl).trans HG.out.1); have j4 := cell_of_row w1 v 4 _ 25 (0, 0) HV1.out; clear hb1 hown1 k0 k1 k2 k3 k4))
    | (go_at_call 10; go_loud (refine (fact_any _).mono ?_; rintro e w2 ⟨rfl, hb2⟩; have HB2 := Lib.hid (HB1.out.trans (hb2.mono (by have := HB1.out.size; have := HVe.out; omega))); have HS2 := Lib.hid ((HS1.out.below hb2).more hb2.size); have HV2 := Lib.hid ((hb2.block v (Array.getElem?_eq_some_iff.1 HV1.out).1).trans HV1.out); have j42 := cell_of_row w2 v 4 _ 25 (0, 0) HV2.out; clear hb2)))
  obtain ⟨i27, E0, E1, E2, E3⟩ := info_parts cell_info
  have hw2v : v < w2.heap.size := (Array.getElem?_eq_some_iff.1 HV2.out).1
  have HSC := HS.out
  obtain ⟨w0, rfl⟩ : ∃ w0 : World, w0 = w2 := ⟨_, rfl⟩
  clear hW0 HG HPic HB1 HS1 HV1 j4 j42
  go_loopw [7, 8, 45] (fun s at' i wr => ∃ (k m : Nat) (AT : Option Addr) (cT : Nat), k ≤ N ∧ i = .int .i64 (k : Int) ∧ s = .int .i64 (m : Int) ∧ at' = .slice AT m cT ∧ Hid ((seenL wd ht p k).length = m) ∧ Hid (wr.ownsRow w0.heap.size 27 2 (.slice AT m cT) m (flatR (ptRow fun i => (seenL wd ht p k)[i]!) m)) ∧ Hid (Below w0.heap.size w0 wr)) (fun _ _ i _ => N - (intOf i).toNat)
  case atStart => exact ⟨0, 0, none, 0, by omega, rfl, rfl, rfl, Lib.hid rfl, Lib.hid (World.ownsRow_nil _ _ _ _), Lib.hid (Below.refl _ _)⟩
  case round =>
    obtain ⟨k, m, AT, cT, hk, rfl, rfl, rfl, HM, HO, HB⟩ := hrel
    have hmk : m ≤ k := by have h1 := HM.out; have h2 := seenL_len wd ht p k; omega
    have hzr := HB.out.size
    have HVr := Lib.hid ((HB.out.block v hw2v).trans HV2.out)
    have HBv := Lib.hid (HB2.out.trans (HB.out.mono (by omega)))
    have u0 := cell_of_row wr v 0 _ 25 (0, 0) HVr.out
    have u1 := cell_of_row wr v 1 _ 25 (0, 0) HVr.out
    have u2 := cell_of_row wr v 2 _ 25 (0, 0) HVr.out
    have u3 := cell_of_row wr v 3 _ 25 (0, 0) HVr.out
    have u4 := cell_of_row wr v 4 _ 25 (0, 0) HVr.out
    have hvr : v < wr.heap.size := by omega
    have hvn : v ≠ wr.heap.size := by omega
    by_cases hkN : k < N
    · obtain ⟨b, off, rfl, hbb, hr⟩ := pt_cells HA.out (by omega)
      obtain ⟨r0, r1⟩ := hr k hkN
      have hbv : b < v := by have := HVe.out; omega
      have o0 := (HBv.out.cell (p := ⟨b, off + k * 2, none⟩) hbv).trans r0
      have o1 := (HBv.out.cell (p := ⟨b, off + k * 2 + 1, none⟩) hbv).trans r1
      have HCk := Lib.hid (HCell.out k hkN)
      have HMem := Lib.hid (mem_iff_at (seenL wd ht p k) (p k))
      have HIn := Lib.hid (seenL_in (wd := wd) (ht := ht) (p := p) (k := k))
      have HOut := Lib.hid (seenL_out (wd := wd) (ht := ht) (p := p) (k := k))
      have HHit := Lib.hid (show 0 ≤ (p k).1 → 0 ≤ (p k).2 → fP p N (p k).2.toNat (p k).1.toNat = 111 from fun h1 h2 => by
        unfold fP hitB
        rw [if_pos]
        rw [List.any_eq_true]
        exact ⟨k, List.mem_range.2 hkN, by simp only [Bool.and_eq_true, decide_eq_true_eq]; omega⟩)
      obtain ⟨pk1, hpk1⟩ : ∃ a, (p k).1 = a := ⟨_, rfl⟩
      obtain ⟨pk2, hpk2⟩ : ∃ a, (p k).2 = a := ⟨_, rfl⟩
      have HPk : Hid (p k = (pk1, pk2)) := Lib.hid (by rw [← hpk1, ← hpk2])
      rw [hpk1, hpk2] at HCk HIn HOut HHit
      generalize (f k).1 = x at *
      generalize (f k).2 = y at *
      have hk0 : (0 : Int) ≤ (k : Int) := by omega
      have hkn : (k : Int) < (N : Int) := by omega
      have hwk : IntKind.i64.wrap ((k : Int) + 1) = (k : Int) + 1 := IntWalk.i64_in _ (by omega)
      have hwm : IntKind.i64.wrap ((m : Int) + 1) = (m : Int) + 1 := IntWalk.i64_in _ (by omega)
      have hbw : b < wr.heap.size := by omega
      clear hr r0 r1 hpk1 hpk2
      cases hvb : visB wd ht pk1 pk2 with
      | false =>
        rw [hvb] at HCk
        have HVN := Lib.hid (show ¬ (0 ≤ pk1 ∧ pk1 < (wd : Int) ∧ 0 ≤ pk2 ∧ pk2 < (ht : Int)) from of_decide_eq_false hvb)
        clear hvb
        go_wp2_with (go_at_call 9; go_loud (refine (HCk.out _).mono ?_; rintro e w3 ⟨rfl, hb3⟩; have HB3 := Lib.hid (((Below.refl _ wr).alloc (Nat.le_refl _) (.cells #[.int .i64 x, .int .i64 y] 23)).trans (hb3.mono (by simp))); clear hb3))
        go_roundw
        case rel =>
          refine ⟨k + 1, m, AT, cT, by omega, by go_num, rfl, rfl, ?_, ?_, ?_⟩
          · rw [HOut.out (fun h => HVN.out h.1)]; exact HM
          · rw [HOut.out (fun h => HVN.out h.1)]; exact Lib.hid (own_below (own_below HO.out HB3.out (Nat.le_refl _)) ((Below.refl _ w3).alloc (Nat.le_refl _) _) (Nat.le_refl _))
          · exact Lib.hid ((HB.out.trans (HB3.out.mono hzr)).alloc (by have := HB3.out.size; omega) _)
        case measure => simp [intOf]; omega
      | true =>
        rw [hvb] at HCk
        have hvv : 0 ≤ pk1 ∧ pk1 < (wd : Int) ∧ 0 ≤ pk2 ∧ pk2 < (ht : Int) := of_decide_eq_true hvb
        have HVV := Lib.hid hvv
        obtain ⟨xx, hxx⟩ : ∃ xx : Nat, pk1 = xx := ⟨pk1.toNat, by omega⟩
        obtain ⟨yy, hyy⟩ : ∃ yy : Nat, pk2 = yy := ⟨pk2.toNat, by omega⟩
        subst hxx hyy
        have hxl : xx < wd := by omega
        have hyl : yy < ht := by omega
        clear hvb hvv
        by_cases hmem : p k ∈ seenL wd ht p k
        · have HNo := Lib.hid (fun h : ((0 ≤ (xx : Int) ∧ (xx : Int) < (wd : Int) ∧ 0 ≤ (yy : Int) ∧ (yy : Int) < (ht : Int)) ∧ p k ∉ seenL wd ht p k) => h.2 hmem)
          have HCt := Lib.hid (fun (W : World) (hW : Below wr.heap.size wr W) => Contains_cells AT (fun i => (seenL wd ht p k)[i]!) m cT (xx : Int) (yy : Int) true W (Sl_flat (k := 2) (e := 27) (row := ptRow fun i => (seenL wd ht p k)[i]!) (fun _ _ => rfl) (own_below HO.out hW (Nat.le_refl _))) (by omega) (by
            have h1 := HMem.out
            rw [HM.out, HPk.out] at h1
            rw [HPk.out] at hmem
            exact ⟨fun _ => h1.1 hmem, fun _ => rfl⟩))
          clear hmem
          go_wp2_with (first
            | (go_at_call 9; go_loud (refine (HCk.out _).mono ?_; rintro e w3 ⟨rfl, hb3⟩; have hb3' := ((Below.refl _ wr).alloc (Nat.le_refl _) (.cells #[.int .i64 x, .int .i64 y] 23)).trans (hb3.mono (by simp)); have HB3 := Lib.hid (hb3'.alloc hb3'.size (.cells #[.int .i64 (xx : Int), .int .i64 (yy : Int)] 27)); clear hb3 hb3'))
            | (go_at_call 18; go_loud (refine (HCt.out _ HB3.out).mono ?_; rintro e w4 ⟨rfl, hb4⟩; have HB4 := Lib.hid (HB3.out.trans (hb4.mono HB3.out.size)); clear hb4)))
          go_roundw
          case rel =>
            refine ⟨k + 1, m, AT, cT, by omega, by go_num, rfl, rfl, ?_, ?_, ?_⟩
            · rw [HOut.out HNo.out]; exact HM
            · rw [HOut.out HNo.out]; exact Lib.hid (own_below HO.out HB4.out (Nat.le_refl _))
            · exact Lib.hid (HB.out.trans (HB4.out.mono hzr))
          case measure => simp [intOf]; omega
        · have HYes := Lib.hid (show seenL wd ht p (k + 1) = seenL wd ht p k ++ [p k] from HIn.out ⟨HVV.out, hmem⟩)
          have HCt := Lib.hid (fun (W : World) (hW : Below wr.heap.size wr W) => Contains_cells AT (fun i => (seenL wd ht p k)[i]!) m cT (xx : Int) (yy : Int) false W (Sl_flat (k := 2) (e := 27) (row := ptRow fun i => (seenL wd ht p k)[i]!) (fun _ _ => rfl) (own_below HO.out hW (Nat.le_refl _))) (by omega) (by
            have h1 := HMem.out
            rw [HM.out, HPk.out] at h1
            rw [HPk.out] at hmem
            exact ⟨(fun h => by cases h), fun h => absurd (h1.2 h) hmem⟩))
          clear hmem
          have HFl := Lib.hid (flat_list (seenL wd ht p k) (p k))
          rw [HM.out, HPk.out] at HFl
          have hHit := HHit.out (by omega) (by omega)
          obtain ⟨zz, hzz, hzz2⟩ : ∃ zz : Nat, (ht : Int) - 1 - (yy : Int) = (zz : Int) ∧ ht - 1 - zz = yy := ⟨ht - 1 - yy, by omega, by omega⟩
          obtain ⟨hsz, hidx⟩ := row_o wd (fP p N (ht - 1 - zz)) xx hxl (by rw [hzz2]; simpa using hHit)
          obtain ⟨bS, oS, hS0, hbS, hrS⟩ := HS2.out.one (by omega)
          have sS := hrS zz (by omega)
          obtain ⟨str, hstr⟩ : ∃ str, rowStr wd (fP p N (ht - 1 - zz)) = str := ⟨_, rfl⟩
          rw [hstr] at hsz hidx sS
          subst hS0
          clear hHit hzz2 hstr hrS
          go_wp2_with (first
            | (go_at_call 9; go_loud (refine (HCk.out _).mono ?_; rintro e w3 ⟨rfl, hb3⟩; have hb3' := ((Below.refl _ wr).alloc (Nat.le_refl _) (.cells #[.int .i64 x, .int .i64 y] 23)).trans (hb3.mono (by simp)); have hz3 : wr.heap.size ≤ w3.heap.size := hb3'.size; have HB3 := Lib.hid (hb3'.alloc hb3'.size (.cells #[.int .i64 (xx : Int), .int .i64 (yy : Int)] 27)); clear hb3 hb3'))
            | (go_at_call 18; go_loud (refine (HCt.out _ HB3.out).mono ?_; rintro e w4 ⟨rfl, hb4⟩; have HB4 := Lib.hid (HB3.out.trans (hb4.mono HB3.out.size)); have hz4 := hb4.size; simp at hz4; have HT4 := Lib.hid ((hb4.block w3.heap.size (by simp)).trans (heap_alloc_new w3 (.cells #[.int .i64 (xx : Int), .int .i64 (yy : Int)] 27))); have q0 := cell_of_row w4 w3.heap.size 0 _ 27 (0, 0) HT4.out; have q1 := cell_of_row w4 w3.heap.size 1 _ 27 (0, 0) HT4.out; clear hb4))
            | (at_builtin; go_loud (refine wpList_append_oneN w4 w4.heap.size rfl #[.int .i64 (xx : Int), .int .i64 (yy : Int)] rfl (.tmp 65) (.tmp 67) 42 rfl w0.heap.size 27 i27 (.agg #[.int .i64 0, .int .i64 0]) 2 16 Try.underlying42 E0 E1 E2 E3 rfl (by decide) (.slice AT m cT) m _ rfl (own_below HO.out HB4.out (Nat.le_refl _)) rfl rfl (by simp [Value.oneCell']) (by omega) (by decide) (by omega) ?_); intro g6 cap6 w6 hv6 hg6 hat6 hlt6))
          have HB6 := Lib.hid (below_app (HB.out.trans (HB4.out.mono hzr)) (by omega) (own_below HO.out HB4.out (Nat.le_refl _)) (Nat.le_refl _) hg6)
          have hT6 : w6.heap[w3.heap.size]? = some (.cells #[.int .i64 (xx : Int), .int .i64 (yy : Int)] 27 (0, 0)) := (hg6.block w3.heap.size (by simp; omega) (fun e => by have := (HO.out.lt _ e.symm).2; omega)).trans ((Below.heap_alloc w4 _ w3.heap.size (by omega)).trans HT4.out)
          have y0 := cell_of_row w6 w3.heap.size 0 _ 27 (0, 0) hT6
          have y1 := cell_of_row w6 w3.heap.size 1 _ 27 (0, 0) hT6
          have y4 := cell_of_row w6 v 4 _ 25 (0, 0) ((HB6.out.block v hw2v).trans HV2.out)
          have sS6 := (HB6.out.cell (p := ⟨bS, oS + zz, none⟩) hbS).trans sS
          have a1 : (0 : Int) ≤ (yy : Int) := by omega
          have a2 : (yy : Int) < (ht : Int) := by omega
          have a3 : (0 : Int) ≤ (xx : Int) := by omega
          have a4 : (xx : Int) < (wd : Int) := by omega
          have a5 : IntKind.i64.wrap ((ht : Int) - 1) = (ht : Int) - 1 := IntWalk.i64_in _ (by omega)
          have a6 : IntKind.i64.wrap ((ht : Int) - 1 - (yy : Int)) = (zz : Int) := by rw [hzz]; exact IntWalk.i64_in _ (by omega)
          have a7 : (0 : Int) ≤ (zz : Int) := by omega
          have a8 : (zz : Int) < (ht : Int) := by omega
          clear hT6 q0 q1 sS hzz
          go_quiet (fail)
          go_wp2
          go_roundw
          case rel =>
            refine ⟨k + 1, m + 1, some ⟨g6, 0, none⟩, cap6, by omega, by go_num, by go_num, rfl, ?_, ?_, ?_⟩
            · rw [HYes.out]; exact Lib.hid (by rw [List.length_append, HM.out]; rfl)
            · rw [HYes.out, HPk.out]; exact Lib.hid (HFl.out ▸ hv6)
            · exact Lib.hid (below_drewN HB6.out _)
          case measure => simp [intOf]; omega
    · obtain rfl : N = k := by omega
      have hJ := Join_pic S cS wd ht p N wr ((HS2.out.below HB.out).more hzr) HC1.out (by omega) (by omega) (by omega)
      have hcnt := (count_pic wd ht p N).trans ((seen_count wd ht p N).trans HM.out)
      have hlen := len_pic wd ht p N
      obtain ⟨str, hstr⟩ : ∃ str : ByteArray, (⟨(Lib.join ((rowsP wd ht p N).map (·.data.toList)) []).toArray⟩ : ByteArray) = str := ⟨_, rfl⟩
      have hd : str.data.toList = Lib.join ((rowsP wd ht p N).map (·.data.toList)) [] := by rw [← hstr]
      rw [hstr] at hJ
      rw [← hd] at hcnt hlen
      obtain ⟨tt, htt⟩ : ∃ tt : Nat, wd * ht = tt := ⟨_, rfl⟩
      have hsz : str.size = tt := by rw [← htt, ← hlen, Array.length_toList]; rfl
      have htl : tt ≤ 3600 := by rw [← htt]; exact Nat.mul_le_mul (show wd ≤ 60 by omega) (show ht ≤ 60 by omega)
      have hmul : IntKind.i64.wrap ((wd : Int) * (ht : Int)) = (tt : Int) := by
        rw [← htt, ← Int.natCast_mul]
        exact IntWalk.i64_in _ (by rw [htt]; omega)
      have HJ := Lib.hid hJ
      have HCnt := Lib.hid (fun (W : World) => Count_o str W)
      rw [hcnt] at HCnt
      clear hJ hcnt hlen hstr hd htt
      go_wp2_with (first
        | (go_at_call 19; go_loud (refine HJ.out.mono ?_; rintro e w3 ⟨rfl, hb3⟩; have HB3 := Lib.hid hb3; have z3 := cell_of_row w3 v 3 _ 25 (0, 0) ((hb3.block v hvr).trans HVr.out); have z4 := cell_of_row w3 v 4 _ 25 (0, 0) ((hb3.block v hvr).trans HVr.out); clear hb3))
        | (go_at_call 20; go_loud (refine (HCnt.out _).mono ?_; rintro e w4 ⟨rfl, rfl⟩)))
      go_ret
      refine ⟨rfl, ?_⟩
      have hv' := HVe.out
      rw [hv']
      exact HBv.out.trans (HB3.out.mono (by omega))

set_option maxRecDepth 100000 in
set_option maxHeartbeats 2000000 in
theorem SShows_any (cx cy sc wd ht : Int) (A : Option Addr) (n c : Nat) (f : Nat → Int × Int) (w : World) (hnc : n ≤ c) (hA : Sl w w.heap.size 2 A n (ptRow f)) :
    Calls Try.prog 7 #[.agg #[.int .i64 cx, .int .i64 cy, .int .i64 sc, .int .i64 wd, .int .i64 ht], .slice A n c] w fun e w' => e = .returned (.bool true) ∧ Below w.heap.size w w' := by
  have hA8 : Sl w w.heap.size 2 A (min n 8) (ptRow f) := hA.less (by omega)
  rcases viewE_cases cx cy sc wd ht with hv | hv
  · by_cases hbad : ∃ i, i < min n 8 ∧ ptE (f i).1 (f i).2 = 4
    · obtain ⟨k, hk, h1, h2⟩ := firstBad f _ hbad
      exact Shows_bad cx cy sc wd ht A n c (min n 8) w hnc rfl fun W o hb =>
        check_badpt cx cy sc wd ht A (min n 8) c k f _ hv ((hA8.below (hb.alloc hb.size o)).more (by simp; have := hb.size; omega)) (by omega) hk h1 h2
    · have hv' := hv
      unfold viewE at hv'
      by_cases hc : ptE cx cy = 0 ∧ 1 ≤ sc ∧ sc ≤ 50000 ∧ sideE wd ht = 0
      · obtain ⟨a, b, c', d⟩ := hc
        have hs : 1 ≤ wd ∧ wd ≤ 60 ∧ 1 ≤ ht ∧ ht ≤ 60 := by
          have hb := d
          unfold sideE at hb
          by_cases c : 1 ≤ wd ∧ wd ≤ 60 ∧ 1 ≤ ht ∧ ht ≤ 60
          · exact c
          · rw [if_neg c] at hb; cases hb
        obtain ⟨wn, rfl⟩ : ∃ wn : Nat, wd = (wn : Int) := ⟨wd.toNat, by omega⟩
        obtain ⟨hn, rfl⟩ : ∃ hn : Nat, ht = (hn : Int) := ⟨ht.toNat, by omega⟩
        obtain ⟨a1, a2, a3, a4⟩ := ptE_zero a
        refine Shows_ok cx cy sc wn hn A n c (min n 8) f w hnc rfl a1 a2 a3 a4 b c' d hA8 fun i hi => ?_
        rcases ptE_cases (f i).1 (f i).2 with h | h
        · exact ptE_zero h
        · exact absurd ⟨i, hi, h⟩ hbad
      · rw [if_neg hc] at hv'; cases hv'
  · exact Shows_bad cx cy sc wd ht A n c (min n 8) w hnc rfl fun W o hb => check_bad cx cy sc wd ht none A 0 0 (min n 8) c _ hv
end Go.Proofs.Ytlkdjnmehnibmaa
