/- SeasonPicks: the walk. -/
import Derived.Test.YtaebebpldkciiaaGreatDoorS17
namespace Go.Proofs.YtaebebpldkciiaaGreatDoor
open Go.RowKit

theorem RunVal.same {S : Su} {l : List Inp} {a b c d kk a2 b2 c2 d2 k2 : Int} (h : RunVal S l a b c d kk) (h2 : RunVal S l a2 b2 c2 d2 k2) : a2 = a ∧ b2 = b ∧ c2 = c ∧ d2 = d ∧ k2 = kk := by
  rcases h with ⟨e, rfl, rfl, rfl, rfl, rfl⟩ | ⟨e, rfl, rfl, rfl, rfl, rfl⟩ <;> rcases h2 with ⟨e2, rfl, rfl, rfl, rfl, rfl⟩ | ⟨e2, rfl, rfl, rfl, rfl, rfl⟩
  · exact ⟨rfl, rfl, rfl, rfl, rfl⟩
  · exact absurd e e2
  · exact absurd e2 e
  · exact ⟨rfl, rfl, rfl, rfl, rfl⟩
set_option maxRecDepth 100000 in
set_option maxHeartbeats 16000000 in
theorem SeasonPicks_any (S : Su) (l : List Inp) (hs : List Hd) (n : Nat) (A : Option Addr) (cA : Nat) (pA : Option Addr) (pn pc : Nat) (pk : Nat → Int) (qA : Option Addr) (qn qc : Nat) (qk : Nat → Int) (w : World) (hW : SeaW w) (hI : SArg l hs A n cA w) (hP : PArg pk pA pn pc w) (hQ : PArg qk qA qn qc w) :
    Calls Tryz.prog 5 #[suA S, .slice A n cA, .slice pA pn pc, .slice qA qn qc] w fun e w' => e = .returned (.bool true) ∧ Below w.heap.size w w' := by
  obtain ⟨m, hm⟩ : ∃ m, min n 12 = m := ⟨_, rfl⟩
  obtain ⟨q, hq⟩ : ∃ q, min pn 9 = q := ⟨_, rfl⟩
  obtain ⟨r, hr⟩ : ∃ r, min qn 9 = r := ⟨_, rfl⟩
  have hmi : min (n : Int) 12 = (m : Int) := by omega
  have hqi : min (pn : Int) 9 = (q : Int) := by omega
  have hri : min (qn : Int) 9 = (r : Int) := by omega
  obtain ⟨A2, c2, hsl, hA2⟩ := takeIn (A := A) (c := cA) n m (by omega) hI.cap.1 hI.cap.2 hI.nil
  obtain ⟨pA2, c3, hsp, hpA2⟩ := takePk (A := pA) (c := pc) pn q (by omega) hP.cap.1 hP.cap.2 hP.nil
  obtain ⟨qA2, c4, hsq, hqA2⟩ := takePk (A := qA) (c := qc) qn r (by omega) hQ.cap.1 hQ.cap.2 hQ.nil
  have HRun := Lib.hid (fun (W : World) (hb : Below w.heap.size w W) => Run_first (S := S) (c2 := c2) (c3 := c3) hW hI hP hb (show m ≤ n by omega) (by omega) (show q ≤ pn by omega) (by omega) hA2 hpA2)
  have HRun2 := Lib.hid (fun (W : World) (hb : Below w.heap.size w W) => Run_first (S := S) (c2 := c2) (c3 := c4) hW hI hQ hb (show m ≤ n by omega) (by omega) (show r ≤ qn by omega) (by omega) hA2 hqA2)
  have HFact := Lib.hid (fun (W : World) (hb : Below w.heap.size w W) => fact18_any W (hW.below hb))
  obtain ⟨V, hV⟩ : ∃ V, w.alloc (suO S) = V := ⟨_, rfl⟩
  have HBV : Hid (Below w.heap.size w V.drew) := Lib.hid (by rw [← hV]; exact ((Below.refl _ _).alloc (Nat.le_refl _) _).drew)
  have hg0 : SuAt S w.heap.size V := by rw [← hV]; exact heap_alloc_new _ _
  have HZ : Hid (V.drew.heap.size = w.heap.size + 1) := Lib.hid (by rw [← hV]; exact size_al _ _)
  unfold SuAt suL at hg0
  have HSu := Lib.hid (fun (W : World) (hb : Below V.drew.heap.size V.drew W) => (hb.block w.heap.size (by have := HZ.out; omega)).trans hg0)
  unfold suO at hV
  unfold suA setupA at HRun HRun2 ⊢
  clear hW hI hP hQ hA2 hpA2 hqA2 hm hq hr hg0
  go_enter Tryz.func5, Tryz.ntmps5
  go_upto_region 2 with (fail)
  go_cut [9, 10] from 13 to 50 (fun s7 s8 wx => ∃ (R : Nat) (a b c d kk : Int), s7 = .pointer (some ⟨R, 0, none⟩) ∧ s8 = .int .i64 kk ∧ Hid (wx.heap[R]? = some (.cells #[.int .i64 a, .int .i64 b, .int .i64 0, .int .i64 0, .int .i64 0, .int .i64 0, .int .i64 c, .int .i64 d] 32 (0, 0))) ∧ Hid (RunVal S (l.take m) a b c d kk) ∧ Hid (Below w.heap.size w wx) ∧ Hid (Below V.drew.heap.size V.drew wx))
  case first =>
    refine wp_region_held_drew (S := (fun W => W.heap[w.heap.size]? = some (.cells #[.int .i64 S.lat, .int .i64 S.vert, .int .i64 (S.g 0), .int .i64 (S.g 1), .int .i64 (S.g 2), .int .i64 (S.g 3), .int .i64 (S.g 4), .int .i64 (S.g 5), .int .i64 (S.g 6), .int .i64 (S.g 7), .int .i64 (S.g 8), .int .i64 (S.g 9), .int .i64 (S.g 10), .int .i64 (S.g 11), .int .i64 (S.g 12), .int .i64 (S.g 13), .int .i64 (S.g 14), .int .i64 (S.g 15)] 27 (0, 0)))) (by kernel_rfl) (HSu.out _ (Below.refl _ _)) (fun hHeld => ?_)
    refine wpAnyH_take (i := 0) (oi := ⟨some 19, _, _, _, _, _⟩) (v := ?r1u) rfl (by kernel_rfl) (by kernel_rfl) (by kernel_rfl) (fun _ _ _ h => h) (Or.inl ⟨by rfl, ?r1p⟩) hHeld ?r1q
    case r1p => (intro W hSw; refine run_exec_row (P := Tryz.prog) 27 (.tmp 4) ?_ w.heap.size ?_ 27 _ (0, 0) _ hSw Tryz.underlying27 rfl (by kernel_rfl) <;> rfl)
    try simp only [Act.put, List.setIfInBounds_toArray, List.set_cons_zero, List.set_cons_succ]
    refine wpAnyH_take (i := 1) (oi := ⟨some 20, _, _, _, _, _⟩) (v := ?r2u) rfl (by kernel_rfl) (by kernel_rfl) (by kernel_rfl) (fun _ _ _ h => h) (Or.inl ⟨by rfl, ?r2p⟩) hHeld ?r2q
    case r2p => (intro W hSw; (try dsimp only at hSw); (try obtain s1 := hSw); go_simp; try with_reducible rfl)
    try simp only [Act.put, List.setIfInBounds_toArray, List.set_cons_zero, List.set_cons_succ]
    refine wpAnyH_take (i := 2) (oi := ⟨some 21, _, _, _, _, _⟩) (v := ?r3u) rfl (by kernel_rfl) (by kernel_rfl) (by kernel_rfl) (fun _ _ _ h => h) (Or.inl ⟨by rfl, ?r3p⟩) hHeld ?r3q
    case r3p => (intro W hSw; (try dsimp only at hSw); (try obtain s1 := hSw); go_simp; try with_reducible rfl)
    try simp only [Act.put, List.setIfInBounds_toArray, List.set_cons_zero, List.set_cons_succ]
    refine wpAnyH_take (i := 3) (oi := ⟨some 22, _, _, _, _, _⟩) (v := ?r4u) rfl (by kernel_rfl) (by kernel_rfl) (by kernel_rfl) (fun _ _ _ h => h) (Or.inl ⟨by rfl, ?r4p⟩) hHeld ?r4q
    case r4p => (intro W hSw; (try dsimp only at hSw); (try obtain s1 := hSw); go_simp; try with_reducible rfl)
    try simp only [Act.put, List.setIfInBounds_toArray, List.set_cons_zero, List.set_cons_succ]
    refine wpAnyH_take (i := 4) (oi := ⟨some 23, _, _, _, _, _⟩) (v := ?r5u) rfl (by kernel_rfl) (by kernel_rfl) (by kernel_rfl) (fun _ _ _ h => h) (Or.inl ⟨by rfl, ?r5p⟩) hHeld ?r5q
    case r5p => (intro W hSw; (try dsimp only at hSw); (try obtain s1 := hSw); go_simp; try with_reducible rfl)
    try simp only [Act.put, List.setIfInBounds_toArray, List.set_cons_zero, List.set_cons_succ]
    refine wpAnyH_take (i := 5) (oi := ⟨some 24, _, _, _, _, _⟩) (v := ?r6u) rfl (by kernel_rfl) (by kernel_rfl) (by kernel_rfl) (fun _ _ _ h => h) (Or.inl ⟨by rfl, ?r6p⟩) hHeld ?r6q
    case r6p => (intro W hSw; (try dsimp only at hSw); (try obtain s1 := hSw); go_simp; try with_reducible rfl)
    try simp only [Act.put, List.setIfInBounds_toArray, List.set_cons_zero, List.set_cons_succ]
    refine wpAnyH_take (i := 6) (oi := ⟨some 25, _, _, _, _, _⟩) (v := ?r7u) rfl (by kernel_rfl) (by kernel_rfl) (by kernel_rfl) (fun _ _ _ h => h) (Or.inl ⟨by rfl, ?r7p⟩) hHeld ?r7q
    case r7p => (intro W hSw; (try dsimp only at hSw); (try obtain s1 := hSw); go_simp; try with_reducible rfl)
    try simp only [Act.put, List.setIfInBounds_toArray, List.set_cons_zero, List.set_cons_succ]
    refine wpAnyH_ready (rs := [7, 11]) (by kernel_rfl) (by simp) ?_
    refine (AllReadyH.cons (o := ⟨some 26, _, _, _, _, _⟩) rfl (fun K hK => ?_) (AllReadyH.cons (o := ⟨some 9, _, _, _, _, _⟩) rfl (fun K hK => ?_) AllReadyH.nil))
    · go_simp
      go_at_call 11
      (with_reducible refine (HRun.out _ HBV.out).mono ?_)
      rintro e wr7 ⟨a, b, c, d, kk, rfl, hv, hb⟩
      have HV := Lib.hid hv
      have HBwr7 := Lib.hid (HBV.out.trans (hb.mono HBV.out.size))
      have HTwr7 := Lib.hid ((Below.refl V.drew.heap.size V.drew).trans (hb.mono (Below.refl V.drew.heap.size V.drew).size))
      clear hv hb
      refine hK.out _ _ (HSu.out _ HTwr7.out) (fun hHeld => ?_)
      clear hK K
      try simp only [Act.put, List.setIfInBounds_toArray, List.set_cons_zero, List.set_cons_succ]
      refine wpAnyH_take (i := 8) (oi := ⟨some 18, _, _, _, _, _⟩) (v := ?r8u) rfl (by kernel_rfl) (by kernel_rfl) (by kernel_rfl) (fun _ _ _ h => h) (Or.inl ⟨by rfl, ?r8p⟩) hHeld ?r8q
      case r8p => (intro W hSw; (try dsimp only at hSw); (try obtain s1 := hSw); go_simp; try with_reducible rfl)
      try simp only [Act.put, List.setIfInBounds_toArray, List.set_cons_zero, List.set_cons_succ]
      refine wpAnyH_take (i := 9) (oi := ⟨some 27, _, _, _, _, _⟩) (v := ?r9u) rfl (by kernel_rfl) (by kernel_rfl) (by kernel_rfl) (fun _ _ _ h => h) (Or.inl ⟨by rfl, ?r9p⟩) hHeld ?r9q
      case r9p => (intro W hSw; (try dsimp only at hSw); (try obtain s1 := hSw); go_simp; try with_reducible rfl)
      try simp only [Act.put, List.setIfInBounds_toArray, List.set_cons_zero, List.set_cons_succ]
      refine wpAnyH_take (i := 10) (oi := ⟨some 28, _, _, _, _, _⟩) (v := ?r10u) rfl (by kernel_rfl) (by kernel_rfl) (by kernel_rfl) (fun _ _ _ h => h) (Or.inl ⟨by rfl, ?r10p⟩) hHeld ?r10q
      case r10p => (intro W hSw; (try dsimp only at hSw); (try obtain s1 := hSw); go_simp; try with_reducible rfl)
      try simp only [Act.put, List.setIfInBounds_toArray, List.set_cons_zero, List.set_cons_succ]
      refine wpAnyH_ready (rs := [11]) (by kernel_rfl) (by simp) ?_
      refine (AllReadyH.cons (o := ⟨some 9, _, _, _, _, _⟩) rfl (fun K hK => ?_) AllReadyH.nil)
      go_simp
      obtain ⟨wr11, hwr11⟩ : ∃ X, wr7.alloc (.cells #[.int .i64 0, .int .i64 0, .int .i64 0, .int .i64 0, .int .i64 0, .int .i64 0, .int .i64 0, .int .i64 0] 32) = X := ⟨_, rfl⟩
      rw [hwr11]
      have HRow : Hid (wr11.heap[wr7.heap.size]? = some (.cells #[.int .i64 0, .int .i64 0, .int .i64 0, .int .i64 0, .int .i64 0, .int .i64 0, .int .i64 0, .int .i64 0] 32 (0, 0))) := Lib.hid (by rw [← hwr11]; exact heap_alloc_new wr7 _)
      have hb : Below wr7.heap.size wr7 wr11 := by rw [← hwr11]; exact (Below.refl _ wr7).alloc (Nat.le_refl _) _
      have HBwr11 := Lib.hid (HBwr7.out.trans (hb.mono HBwr7.out.size))
      have HTwr11 := Lib.hid (HTwr7.out.trans (hb.mono HTwr7.out.size))
      have HRl : Hid (wr7.heap.size < wr11.heap.size) := Lib.hid (by rw [← hwr11]; have := size_al wr7 (.cells #[.int .i64 0, .int .i64 0, .int .i64 0, .int .i64 0, .int .i64 0, .int .i64 0, .int .i64 0, .int .i64 0] 32); exact Nat.lt_of_lt_of_eq (Nat.lt_succ_self _) this.symm)
      have HRg : Hid (V.drew.heap.size ≤ wr7.heap.size) := Lib.hid (HTwr7.out.size)
      obtain ⟨R, hR⟩ : ∃ R, wr7.heap.size = R := ⟨_, rfl⟩
      replace HRow : Hid (wr11.heap[wr7.heap.size]? = some (.cells #[.int .i64 0, .int .i64 0, .int .i64 0, .int .i64 0, .int .i64 0, .int .i64 0, .int .i64 0, .int .i64 0] 32 (0, 0))) := HRow
      replace HRl : Hid (wr7.heap.size < wr11.heap.size) := HRl
      replace HRg : Hid (V.drew.heap.size ≤ wr7.heap.size) := HRg
      rw [hR] at HRow HRl HRg ⊢
      clear hb hwr11
      refine hK.out _ _ (HSu.out _ HTwr11.out) (fun hHeld => ?_)
      clear hK K
      try simp only [Act.put, List.setIfInBounds_toArray, List.set_cons_zero, List.set_cons_succ]
      refine wpAnyH_ready (rs := [12]) (by kernel_rfl) (by simp) ?_
      refine (AllReadyH.cons (o := ⟨none, _, _, _, _, _⟩) rfl (fun K hK => ?_) AllReadyH.nil)
      have c0 : wr11.cell? ⟨R, 0, none⟩ = some (.int .i64 0) := cell_of_row wr11 _ 0 _ _ _ HRow.out
      have f0 : wr11.frozen? ⟨R, 0, none⟩ = false := frozen_of_row wr11 _ 0 _ _ HRow.out
      have c1 : wr11.cell? ⟨R, 1, none⟩ = some (.int .i64 0) := cell_of_row wr11 _ 1 _ _ _ HRow.out
      have f1 : wr11.frozen? ⟨R, 1, none⟩ = false := frozen_of_row wr11 _ 1 _ _ HRow.out
      have c2 : wr11.cell? ⟨R, 2, none⟩ = some (.int .i64 0) := cell_of_row wr11 _ 2 _ _ _ HRow.out
      have f2 : wr11.frozen? ⟨R, 2, none⟩ = false := frozen_of_row wr11 _ 2 _ _ HRow.out
      have c3 : wr11.cell? ⟨R, 3, none⟩ = some (.int .i64 0) := cell_of_row wr11 _ 3 _ _ _ HRow.out
      have f3 : wr11.frozen? ⟨R, 3, none⟩ = false := frozen_of_row wr11 _ 3 _ _ HRow.out
      have c4 : wr11.cell? ⟨R, 4, none⟩ = some (.int .i64 0) := cell_of_row wr11 _ 4 _ _ _ HRow.out
      have f4 : wr11.frozen? ⟨R, 4, none⟩ = false := frozen_of_row wr11 _ 4 _ _ HRow.out
      have c5 : wr11.cell? ⟨R, 5, none⟩ = some (.int .i64 0) := cell_of_row wr11 _ 5 _ _ _ HRow.out
      have f5 : wr11.frozen? ⟨R, 5, none⟩ = false := frozen_of_row wr11 _ 5 _ _ HRow.out
      have c6 : wr11.cell? ⟨R, 6, none⟩ = some (.int .i64 0) := cell_of_row wr11 _ 6 _ _ _ HRow.out
      have f6 : wr11.frozen? ⟨R, 6, none⟩ = false := frozen_of_row wr11 _ 6 _ _ HRow.out
      have c7 : wr11.cell? ⟨R, 7, none⟩ = some (.int .i64 0) := cell_of_row wr11 _ 7 _ _ _ HRow.out
      have f7 : wr11.frozen? ⟨R, 7, none⟩ = false := frozen_of_row wr11 _ 7 _ _ HRow.out
      go_simp
      obtain ⟨wr12, hwr12⟩ : ∃ X, ((((((((wr11.setCell ⟨R, 0, none⟩ (.int .i64 a)).setCell ⟨R, 1, none⟩ (.int .i64 b)).setCell ⟨R, 2, none⟩ (.int .i64 0)).setCell ⟨R, 3, none⟩ (.int .i64 0)).setCell ⟨R, 4, none⟩ (.int .i64 0)).setCell ⟨R, 5, none⟩ (.int .i64 0)).setCell ⟨R, 6, none⟩ (.int .i64 c)).setCell ⟨R, 7, none⟩ (.int .i64 d)) = X := ⟨_, rfl⟩
      rw [hwr12]
      have hrow2 := set8 HRow.out (.int .i64 a) (.int .i64 b) (.int .i64 0) (.int .i64 0) (.int .i64 0) (.int .i64 0) (.int .i64 c) (.int .i64 d)
      have hs : Below R wr11 wr12 := by rw [← hwr12]; exact ((((((((Below.refl R wr11).setCell (Nat.le_refl _) _).setCell (Nat.le_refl _) _).setCell (Nat.le_refl _) _).setCell (Nat.le_refl _) _).setCell (Nat.le_refl _) _).setCell (Nat.le_refl _) _).setCell (Nat.le_refl _) _).setCell (Nat.le_refl _) _
      rw [hwr12] at hrow2
      have HRow2 := Lib.hid hrow2
      have HBwr12 := Lib.hid (HBwr11.out.trans (hs.mono (Nat.le_trans HBV.out.size HRg.out)))
      have HTwr12 := Lib.hid (HTwr11.out.trans (hs.mono HRg.out))
      clear hs hwr12 hrow2 c0 f0 c1 f1 c2 f2 c3 f3 c4 f4 c5 f5 c6 f6 c7 f7
      refine hK.out _ _ (HSu.out _ HTwr12.out) (fun hHeld => ?_)
      clear hK K
      try simp only [Act.put, List.setIfInBounds_toArray, List.set_cons_zero, List.set_cons_succ]
      refine wpAnyH_take (i := 13) (oi := ⟨some 10, _, _, _, _, _⟩) (v := ?r11u) rfl (by kernel_rfl) (by kernel_rfl) (by kernel_rfl) (fun _ _ _ h => h) (Or.inl ⟨by rfl, ?r11p⟩) hHeld ?r11q
      case r11p => (intro W hSw; (try dsimp only at hSw); (try obtain s1 := hSw); go_simp; try with_reducible rfl)
      try simp only [Act.put, List.setIfInBounds_toArray, List.set_cons_zero, List.set_cons_succ]
      refine wpAnyH_done (by kernel_rfl) ?_ _
      go_wp2_with fail
      go_meet
      case rel => exact ⟨R, a, b, c, d, kk, rfl, rfl, HRow2, HV, HBwr12, HTwr12⟩
    · go_simp
      obtain ⟨wr11, hwr11⟩ : ∃ X, (V.alloc (.cells #[.int .i64 0, .int .i64 0, .int .i64 0, .int .i64 0, .int .i64 0, .int .i64 0, .int .i64 0, .int .i64 0] 32)).drew = X := ⟨_, rfl⟩
      rw [hwr11]
      have HRow : Hid (wr11.heap[V.drew.heap.size]? = some (.cells #[.int .i64 0, .int .i64 0, .int .i64 0, .int .i64 0, .int .i64 0, .int .i64 0, .int .i64 0, .int .i64 0] 32 (0, 0))) := Lib.hid (by rw [← hwr11]; exact heap_alloc_new V _)
      have hb : Below V.drew.heap.size V.drew wr11 := by rw [← hwr11]; exact (Below.refl _ V.drew).alloc (Nat.le_refl _) _
      have HBwr11 := Lib.hid (HBV.out.trans (hb.mono HBV.out.size))
      have HTwr11 := Lib.hid ((Below.refl V.drew.heap.size V.drew).trans (hb.mono (Below.refl V.drew.heap.size V.drew).size))
      have HRl : Hid (V.drew.heap.size < wr11.heap.size) := Lib.hid (by rw [← hwr11]; have := size_al V (.cells #[.int .i64 0, .int .i64 0, .int .i64 0, .int .i64 0, .int .i64 0, .int .i64 0, .int .i64 0, .int .i64 0] 32); exact Nat.lt_of_lt_of_eq (Nat.lt_succ_self _) this.symm)
      have HRg : Hid (V.drew.heap.size ≤ V.drew.heap.size) := Lib.hid ((Below.refl V.drew.heap.size V.drew).size)
      obtain ⟨R, hR⟩ : ∃ R, V.heap.size = R := ⟨_, rfl⟩
      replace HRow : Hid (wr11.heap[V.heap.size]? = some (.cells #[.int .i64 0, .int .i64 0, .int .i64 0, .int .i64 0, .int .i64 0, .int .i64 0, .int .i64 0, .int .i64 0] 32 (0, 0))) := HRow
      replace HRl : Hid (V.heap.size < wr11.heap.size) := HRl
      replace HRg : Hid (V.drew.heap.size ≤ V.heap.size) := HRg
      rw [hR] at HRow HRl HRg ⊢
      clear hb hwr11
      refine hK.out _ _ (HSu.out _ HTwr11.out) (fun hHeld => ?_)
      clear hK K
      try simp only [Act.put, List.setIfInBounds_toArray, List.set_cons_zero, List.set_cons_succ]
      refine wpAnyH_ready (rs := [7]) (by kernel_rfl) (by simp) ?_
      refine (AllReadyH.cons (o := ⟨some 26, _, _, _, _, _⟩) rfl (fun K hK => ?_) AllReadyH.nil)
      go_simp
      go_at_call 11
      (with_reducible refine (HRun.out _ HBwr11.out).mono ?_)
      rintro e wr7 ⟨a, b, c, d, kk, rfl, hv, hb⟩
      have HV := Lib.hid hv
      have HBwr7 := Lib.hid (HBwr11.out.trans (hb.mono HBwr11.out.size))
      have HTwr7 := Lib.hid (HTwr11.out.trans (hb.mono HTwr11.out.size))
      have hrow := HRow.out
      clear HRow
      have HRow := Lib.hid ((hb.block _ (by have := HRl.out; omega)).trans hrow)
      clear hrow
      clear hv hb
      refine hK.out _ _ (HSu.out _ HTwr7.out) (fun hHeld => ?_)
      clear hK K
      try simp only [Act.put, List.setIfInBounds_toArray, List.set_cons_zero, List.set_cons_succ]
      refine wpAnyH_take (i := 8) (oi := ⟨some 18, _, _, _, _, _⟩) (v := ?r12u) rfl (by kernel_rfl) (by kernel_rfl) (by kernel_rfl) (fun _ _ _ h => h) (Or.inl ⟨by rfl, ?r12p⟩) hHeld ?r12q
      case r12p => (intro W hSw; (try dsimp only at hSw); (try obtain s1 := hSw); go_simp; try with_reducible rfl)
      try simp only [Act.put, List.setIfInBounds_toArray, List.set_cons_zero, List.set_cons_succ]
      refine wpAnyH_take (i := 9) (oi := ⟨some 27, _, _, _, _, _⟩) (v := ?r13u) rfl (by kernel_rfl) (by kernel_rfl) (by kernel_rfl) (fun _ _ _ h => h) (Or.inl ⟨by rfl, ?r13p⟩) hHeld ?r13q
      case r13p => (intro W hSw; (try dsimp only at hSw); (try obtain s1 := hSw); go_simp; try with_reducible rfl)
      try simp only [Act.put, List.setIfInBounds_toArray, List.set_cons_zero, List.set_cons_succ]
      refine wpAnyH_take (i := 10) (oi := ⟨some 28, _, _, _, _, _⟩) (v := ?r14u) rfl (by kernel_rfl) (by kernel_rfl) (by kernel_rfl) (fun _ _ _ h => h) (Or.inl ⟨by rfl, ?r14p⟩) hHeld ?r14q
      case r14p => (intro W hSw; (try dsimp only at hSw); (try obtain s1 := hSw); go_simp; try with_reducible rfl)
      try simp only [Act.put, List.setIfInBounds_toArray, List.set_cons_zero, List.set_cons_succ]
      refine wpAnyH_ready (rs := [12]) (by kernel_rfl) (by simp) ?_
      refine (AllReadyH.cons (o := ⟨none, _, _, _, _, _⟩) rfl (fun K hK => ?_) AllReadyH.nil)
      have c0 : wr7.cell? ⟨R, 0, none⟩ = some (.int .i64 0) := cell_of_row wr7 _ 0 _ _ _ HRow.out
      have f0 : wr7.frozen? ⟨R, 0, none⟩ = false := frozen_of_row wr7 _ 0 _ _ HRow.out
      have c1 : wr7.cell? ⟨R, 1, none⟩ = some (.int .i64 0) := cell_of_row wr7 _ 1 _ _ _ HRow.out
      have f1 : wr7.frozen? ⟨R, 1, none⟩ = false := frozen_of_row wr7 _ 1 _ _ HRow.out
      have c2 : wr7.cell? ⟨R, 2, none⟩ = some (.int .i64 0) := cell_of_row wr7 _ 2 _ _ _ HRow.out
      have f2 : wr7.frozen? ⟨R, 2, none⟩ = false := frozen_of_row wr7 _ 2 _ _ HRow.out
      have c3 : wr7.cell? ⟨R, 3, none⟩ = some (.int .i64 0) := cell_of_row wr7 _ 3 _ _ _ HRow.out
      have f3 : wr7.frozen? ⟨R, 3, none⟩ = false := frozen_of_row wr7 _ 3 _ _ HRow.out
      have c4 : wr7.cell? ⟨R, 4, none⟩ = some (.int .i64 0) := cell_of_row wr7 _ 4 _ _ _ HRow.out
      have f4 : wr7.frozen? ⟨R, 4, none⟩ = false := frozen_of_row wr7 _ 4 _ _ HRow.out
      have c5 : wr7.cell? ⟨R, 5, none⟩ = some (.int .i64 0) := cell_of_row wr7 _ 5 _ _ _ HRow.out
      have f5 : wr7.frozen? ⟨R, 5, none⟩ = false := frozen_of_row wr7 _ 5 _ _ HRow.out
      have c6 : wr7.cell? ⟨R, 6, none⟩ = some (.int .i64 0) := cell_of_row wr7 _ 6 _ _ _ HRow.out
      have f6 : wr7.frozen? ⟨R, 6, none⟩ = false := frozen_of_row wr7 _ 6 _ _ HRow.out
      have c7 : wr7.cell? ⟨R, 7, none⟩ = some (.int .i64 0) := cell_of_row wr7 _ 7 _ _ _ HRow.out
      have f7 : wr7.frozen? ⟨R, 7, none⟩ = false := frozen_of_row wr7 _ 7 _ _ HRow.out
      go_simp
      obtain ⟨wr12, hwr12⟩ : ∃ X, ((((((((wr7.setCell ⟨R, 0, none⟩ (.int .i64 a)).setCell ⟨R, 1, none⟩ (.int .i64 b)).setCell ⟨R, 2, none⟩ (.int .i64 0)).setCell ⟨R, 3, none⟩ (.int .i64 0)).setCell ⟨R, 4, none⟩ (.int .i64 0)).setCell ⟨R, 5, none⟩ (.int .i64 0)).setCell ⟨R, 6, none⟩ (.int .i64 c)).setCell ⟨R, 7, none⟩ (.int .i64 d)) = X := ⟨_, rfl⟩
      rw [hwr12]
      have hrow2 := set8 HRow.out (.int .i64 a) (.int .i64 b) (.int .i64 0) (.int .i64 0) (.int .i64 0) (.int .i64 0) (.int .i64 c) (.int .i64 d)
      have hs : Below R wr7 wr12 := by rw [← hwr12]; exact ((((((((Below.refl R wr7).setCell (Nat.le_refl _) _).setCell (Nat.le_refl _) _).setCell (Nat.le_refl _) _).setCell (Nat.le_refl _) _).setCell (Nat.le_refl _) _).setCell (Nat.le_refl _) _).setCell (Nat.le_refl _) _).setCell (Nat.le_refl _) _
      rw [hwr12] at hrow2
      have HRow2 := Lib.hid hrow2
      have HBwr12 := Lib.hid (HBwr7.out.trans (hs.mono (Nat.le_trans HBV.out.size HRg.out)))
      have HTwr12 := Lib.hid (HTwr7.out.trans (hs.mono HRg.out))
      clear hs hwr12 hrow2 c0 f0 c1 f1 c2 f2 c3 f3 c4 f4 c5 f5 c6 f6 c7 f7
      refine hK.out _ _ (HSu.out _ HTwr12.out) (fun hHeld => ?_)
      clear hK K
      try simp only [Act.put, List.setIfInBounds_toArray, List.set_cons_zero, List.set_cons_succ]
      refine wpAnyH_take (i := 13) (oi := ⟨some 10, _, _, _, _, _⟩) (v := ?r15u) rfl (by kernel_rfl) (by kernel_rfl) (by kernel_rfl) (fun _ _ _ h => h) (Or.inl ⟨by rfl, ?r15p⟩) hHeld ?r15q
      case r15p => (intro W hSw; (try dsimp only at hSw); (try obtain s1 := hSw); go_simp; try with_reducible rfl)
      try simp only [Act.put, List.setIfInBounds_toArray, List.set_cons_zero, List.set_cons_succ]
      refine wpAnyH_done (by kernel_rfl) ?_ _
      go_wp2_with fail
      go_meet
      case rel => exact ⟨R, a, b, c, d, kk, rfl, rfl, HRow2, HV, HBwr12, HTwr12⟩
  case rest =>
    obtain ⟨R1, a1, b1, c1, d1, k1, rfl, rfl, HRow1, HV1, HB1, HT1⟩ := hcut
    obtain ⟨w1, hw1⟩ : ∃ w1 : World, w1 = wc := ⟨_, rfl⟩
    subst hw1
    have HB1d : Hid (Below w.heap.size w w1.drew) := Lib.hid HB1.out.drew
    have HSu0 := HSu
    clear HSu
    have HSu := Lib.hid (fun (W : World) (hb : Below w1.drew.heap.size w1.drew W) => HSu0.out W (HT1.out.drew.trans (hb.mono HT1.out.size)))
    have HRo := Lib.hid (fun (W : World) (hb : Below w1.drew.heap.size w1.drew W) => (hb.block R1 (Array.getElem?_eq_some_iff.1 HRow1.out).1).trans HRow1.out)
    clear HRun HSu0
    go_upto_region 3 with (fail)
    go_cut [11, 12] from 13 to 50 (fun s7 s8 wx => ∃ (R : Nat) (a b c d kk : Int), s7 = .pointer (some ⟨R, 0, none⟩) ∧ s8 = .int .i64 kk ∧ Hid (wx.heap[R]? = some (.cells #[.int .i64 a, .int .i64 b, .int .i64 0, .int .i64 0, .int .i64 0, .int .i64 0, .int .i64 c, .int .i64 d] 32 (0, 0))) ∧ Hid (RunVal S (l.take m) a b c d kk) ∧ Hid (Below w.heap.size w wx) ∧ Hid (Below w1.drew.heap.size w1.drew wx))
    case first =>
      refine wp_region_held_drew (S := (fun W => W.heap[w.heap.size]? = some (.cells #[.int .i64 S.lat, .int .i64 S.vert, .int .i64 (S.g 0), .int .i64 (S.g 1), .int .i64 (S.g 2), .int .i64 (S.g 3), .int .i64 (S.g 4), .int .i64 (S.g 5), .int .i64 (S.g 6), .int .i64 (S.g 7), .int .i64 (S.g 8), .int .i64 (S.g 9), .int .i64 (S.g 10), .int .i64 (S.g 11), .int .i64 (S.g 12), .int .i64 (S.g 13), .int .i64 (S.g 14), .int .i64 (S.g 15)] 27 (0, 0)))) (by kernel_rfl) (HSu.out _ (Below.refl _ _)) (fun hHeld => ?_)
      refine wpAnyH_take (i := 0) (oi := ⟨some 30, _, _, _, _, _⟩) (v := ?s1u) rfl (by kernel_rfl) (by kernel_rfl) (by kernel_rfl) (fun _ _ _ h => h) (Or.inl ⟨by rfl, ?s1p⟩) hHeld ?s1q
      case s1p => (intro W hSw; refine run_exec_row (P := Tryz.prog) 27 (.tmp 4) ?_ w.heap.size ?_ 27 _ (0, 0) _ hSw Tryz.underlying27 rfl (by kernel_rfl) <;> rfl)
      try simp only [Act.put, List.setIfInBounds_toArray, List.set_cons_zero, List.set_cons_succ]
      refine wpAnyH_take (i := 1) (oi := ⟨some 31, _, _, _, _, _⟩) (v := ?s2u) rfl (by kernel_rfl) (by kernel_rfl) (by kernel_rfl) (fun _ _ _ h => h) (Or.inl ⟨by rfl, ?s2p⟩) hHeld ?s2q
      case s2p => (intro W hSw; (try dsimp only at hSw); (try obtain s1 := hSw); go_simp; try with_reducible rfl)
      try simp only [Act.put, List.setIfInBounds_toArray, List.set_cons_zero, List.set_cons_succ]
      refine wpAnyH_take (i := 2) (oi := ⟨some 32, _, _, _, _, _⟩) (v := ?s3u) rfl (by kernel_rfl) (by kernel_rfl) (by kernel_rfl) (fun _ _ _ h => h) (Or.inl ⟨by rfl, ?s3p⟩) hHeld ?s3q
      case s3p => (intro W hSw; (try dsimp only at hSw); (try obtain s1 := hSw); go_simp; try with_reducible rfl)
      try simp only [Act.put, List.setIfInBounds_toArray, List.set_cons_zero, List.set_cons_succ]
      refine wpAnyH_take (i := 3) (oi := ⟨some 33, _, _, _, _, _⟩) (v := ?s4u) rfl (by kernel_rfl) (by kernel_rfl) (by kernel_rfl) (fun _ _ _ h => h) (Or.inl ⟨by rfl, ?s4p⟩) hHeld ?s4q
      case s4p => (intro W hSw; (try dsimp only at hSw); (try obtain s1 := hSw); go_simp; try with_reducible rfl)
      try simp only [Act.put, List.setIfInBounds_toArray, List.set_cons_zero, List.set_cons_succ]
      refine wpAnyH_take (i := 4) (oi := ⟨some 34, _, _, _, _, _⟩) (v := ?s5u) rfl (by kernel_rfl) (by kernel_rfl) (by kernel_rfl) (fun _ _ _ h => h) (Or.inl ⟨by rfl, ?s5p⟩) hHeld ?s5q
      case s5p => (intro W hSw; (try dsimp only at hSw); (try obtain s1 := hSw); go_simp; try with_reducible rfl)
      try simp only [Act.put, List.setIfInBounds_toArray, List.set_cons_zero, List.set_cons_succ]
      refine wpAnyH_take (i := 5) (oi := ⟨some 35, _, _, _, _, _⟩) (v := ?s6u) rfl (by kernel_rfl) (by kernel_rfl) (by kernel_rfl) (fun _ _ _ h => h) (Or.inl ⟨by rfl, ?s6p⟩) hHeld ?s6q
      case s6p => (intro W hSw; (try dsimp only at hSw); (try obtain s1 := hSw); go_simp; try with_reducible rfl)
      try simp only [Act.put, List.setIfInBounds_toArray, List.set_cons_zero, List.set_cons_succ]
      refine wpAnyH_take (i := 6) (oi := ⟨some 36, _, _, _, _, _⟩) (v := ?s7u) rfl (by kernel_rfl) (by kernel_rfl) (by kernel_rfl) (fun _ _ _ h => h) (Or.inl ⟨by rfl, ?s7p⟩) hHeld ?s7q
      case s7p => (intro W hSw; (try dsimp only at hSw); (try obtain s1 := hSw); go_simp; try with_reducible rfl)
      try simp only [Act.put, List.setIfInBounds_toArray, List.set_cons_zero, List.set_cons_succ]
      refine wpAnyH_ready (rs := [7, 11]) (by kernel_rfl) (by simp) ?_
      refine (AllReadyH.cons (o := ⟨some 37, _, _, _, _, _⟩) rfl (fun K hK => ?_) (AllReadyH.cons (o := ⟨some 11, _, _, _, _, _⟩) rfl (fun K hK => ?_) AllReadyH.nil))
      · go_simp
        go_at_call 11
        (with_reducible refine (HRun2.out _ HB1d.out).mono ?_)
        rintro e ws7 ⟨a, b, c, d, kk, rfl, hv, hb⟩
        have HV := Lib.hid hv
        have HBws7 := Lib.hid (HB1d.out.trans (hb.mono HB1d.out.size))
        have HTws7 := Lib.hid ((Below.refl w1.drew.heap.size w1.drew).trans (hb.mono (Below.refl w1.drew.heap.size w1.drew).size))
        clear hv hb
        refine hK.out _ _ (HSu.out _ HTws7.out) (fun hHeld => ?_)
        clear hK K
        try simp only [Act.put, List.setIfInBounds_toArray, List.set_cons_zero, List.set_cons_succ]
        refine wpAnyH_take (i := 8) (oi := ⟨some 29, _, _, _, _, _⟩) (v := ?s8u) rfl (by kernel_rfl) (by kernel_rfl) (by kernel_rfl) (fun _ _ _ h => h) (Or.inl ⟨by rfl, ?s8p⟩) hHeld ?s8q
        case s8p => (intro W hSw; (try dsimp only at hSw); (try obtain s1 := hSw); go_simp; try with_reducible rfl)
        try simp only [Act.put, List.setIfInBounds_toArray, List.set_cons_zero, List.set_cons_succ]
        refine wpAnyH_take (i := 9) (oi := ⟨some 38, _, _, _, _, _⟩) (v := ?s9u) rfl (by kernel_rfl) (by kernel_rfl) (by kernel_rfl) (fun _ _ _ h => h) (Or.inl ⟨by rfl, ?s9p⟩) hHeld ?s9q
        case s9p => (intro W hSw; (try dsimp only at hSw); (try obtain s1 := hSw); go_simp; try with_reducible rfl)
        try simp only [Act.put, List.setIfInBounds_toArray, List.set_cons_zero, List.set_cons_succ]
        refine wpAnyH_take (i := 10) (oi := ⟨some 39, _, _, _, _, _⟩) (v := ?s10u) rfl (by kernel_rfl) (by kernel_rfl) (by kernel_rfl) (fun _ _ _ h => h) (Or.inl ⟨by rfl, ?s10p⟩) hHeld ?s10q
        case s10p => (intro W hSw; (try dsimp only at hSw); (try obtain s1 := hSw); go_simp; try with_reducible rfl)
        try simp only [Act.put, List.setIfInBounds_toArray, List.set_cons_zero, List.set_cons_succ]
        refine wpAnyH_ready (rs := [11]) (by kernel_rfl) (by simp) ?_
        refine (AllReadyH.cons (o := ⟨some 11, _, _, _, _, _⟩) rfl (fun K hK => ?_) AllReadyH.nil)
        go_simp
        obtain ⟨ws11, hws11⟩ : ∃ X, ws7.alloc (.cells #[.int .i64 0, .int .i64 0, .int .i64 0, .int .i64 0, .int .i64 0, .int .i64 0, .int .i64 0, .int .i64 0] 32) = X := ⟨_, rfl⟩
        rw [hws11]
        have HRow : Hid (ws11.heap[ws7.heap.size]? = some (.cells #[.int .i64 0, .int .i64 0, .int .i64 0, .int .i64 0, .int .i64 0, .int .i64 0, .int .i64 0, .int .i64 0] 32 (0, 0))) := Lib.hid (by rw [← hws11]; exact heap_alloc_new ws7 _)
        have hb : Below ws7.heap.size ws7 ws11 := by rw [← hws11]; exact (Below.refl _ ws7).alloc (Nat.le_refl _) _
        have HBws11 := Lib.hid (HBws7.out.trans (hb.mono HBws7.out.size))
        have HTws11 := Lib.hid (HTws7.out.trans (hb.mono HTws7.out.size))
        have HRl : Hid (ws7.heap.size < ws11.heap.size) := Lib.hid (by rw [← hws11]; have := size_al ws7 (.cells #[.int .i64 0, .int .i64 0, .int .i64 0, .int .i64 0, .int .i64 0, .int .i64 0, .int .i64 0, .int .i64 0] 32); exact Nat.lt_of_lt_of_eq (Nat.lt_succ_self _) this.symm)
        have HRg : Hid (w1.drew.heap.size ≤ ws7.heap.size) := Lib.hid (HTws7.out.size)
        obtain ⟨R, hR⟩ : ∃ R, ws7.heap.size = R := ⟨_, rfl⟩
        replace HRow : Hid (ws11.heap[ws7.heap.size]? = some (.cells #[.int .i64 0, .int .i64 0, .int .i64 0, .int .i64 0, .int .i64 0, .int .i64 0, .int .i64 0, .int .i64 0] 32 (0, 0))) := HRow
        replace HRl : Hid (ws7.heap.size < ws11.heap.size) := HRl
        replace HRg : Hid (w1.drew.heap.size ≤ ws7.heap.size) := HRg
        rw [hR] at HRow HRl HRg ⊢
        clear hb hws11
        refine hK.out _ _ (HSu.out _ HTws11.out) (fun hHeld => ?_)
        clear hK K
        try simp only [Act.put, List.setIfInBounds_toArray, List.set_cons_zero, List.set_cons_succ]
        refine wpAnyH_ready (rs := [12]) (by kernel_rfl) (by simp) ?_
        refine (AllReadyH.cons (o := ⟨none, _, _, _, _, _⟩) rfl (fun K hK => ?_) AllReadyH.nil)
        have c0 : ws11.cell? ⟨R, 0, none⟩ = some (.int .i64 0) := cell_of_row ws11 _ 0 _ _ _ HRow.out
        have f0 : ws11.frozen? ⟨R, 0, none⟩ = false := frozen_of_row ws11 _ 0 _ _ HRow.out
        have c1 : ws11.cell? ⟨R, 1, none⟩ = some (.int .i64 0) := cell_of_row ws11 _ 1 _ _ _ HRow.out
        have f1 : ws11.frozen? ⟨R, 1, none⟩ = false := frozen_of_row ws11 _ 1 _ _ HRow.out
        have c2 : ws11.cell? ⟨R, 2, none⟩ = some (.int .i64 0) := cell_of_row ws11 _ 2 _ _ _ HRow.out
        have f2 : ws11.frozen? ⟨R, 2, none⟩ = false := frozen_of_row ws11 _ 2 _ _ HRow.out
        have c3 : ws11.cell? ⟨R, 3, none⟩ = some (.int .i64 0) := cell_of_row ws11 _ 3 _ _ _ HRow.out
        have f3 : ws11.frozen? ⟨R, 3, none⟩ = false := frozen_of_row ws11 _ 3 _ _ HRow.out
        have c4 : ws11.cell? ⟨R, 4, none⟩ = some (.int .i64 0) := cell_of_row ws11 _ 4 _ _ _ HRow.out
        have f4 : ws11.frozen? ⟨R, 4, none⟩ = false := frozen_of_row ws11 _ 4 _ _ HRow.out
        have c5 : ws11.cell? ⟨R, 5, none⟩ = some (.int .i64 0) := cell_of_row ws11 _ 5 _ _ _ HRow.out
        have f5 : ws11.frozen? ⟨R, 5, none⟩ = false := frozen_of_row ws11 _ 5 _ _ HRow.out
        have c6 : ws11.cell? ⟨R, 6, none⟩ = some (.int .i64 0) := cell_of_row ws11 _ 6 _ _ _ HRow.out
        have f6 : ws11.frozen? ⟨R, 6, none⟩ = false := frozen_of_row ws11 _ 6 _ _ HRow.out
        have c7 : ws11.cell? ⟨R, 7, none⟩ = some (.int .i64 0) := cell_of_row ws11 _ 7 _ _ _ HRow.out
        have f7 : ws11.frozen? ⟨R, 7, none⟩ = false := frozen_of_row ws11 _ 7 _ _ HRow.out
        go_simp
        obtain ⟨ws12, hws12⟩ : ∃ X, ((((((((ws11.setCell ⟨R, 0, none⟩ (.int .i64 a)).setCell ⟨R, 1, none⟩ (.int .i64 b)).setCell ⟨R, 2, none⟩ (.int .i64 0)).setCell ⟨R, 3, none⟩ (.int .i64 0)).setCell ⟨R, 4, none⟩ (.int .i64 0)).setCell ⟨R, 5, none⟩ (.int .i64 0)).setCell ⟨R, 6, none⟩ (.int .i64 c)).setCell ⟨R, 7, none⟩ (.int .i64 d)) = X := ⟨_, rfl⟩
        rw [hws12]
        have hrow2 := set8 HRow.out (.int .i64 a) (.int .i64 b) (.int .i64 0) (.int .i64 0) (.int .i64 0) (.int .i64 0) (.int .i64 c) (.int .i64 d)
        have hs : Below R ws11 ws12 := by rw [← hws12]; exact ((((((((Below.refl R ws11).setCell (Nat.le_refl _) _).setCell (Nat.le_refl _) _).setCell (Nat.le_refl _) _).setCell (Nat.le_refl _) _).setCell (Nat.le_refl _) _).setCell (Nat.le_refl _) _).setCell (Nat.le_refl _) _).setCell (Nat.le_refl _) _
        rw [hws12] at hrow2
        have HRow2 := Lib.hid hrow2
        have HBws12 := Lib.hid (HBws11.out.trans (hs.mono (Nat.le_trans HB1d.out.size HRg.out)))
        have HTws12 := Lib.hid (HTws11.out.trans (hs.mono HRg.out))
        clear hs hws12 hrow2 c0 f0 c1 f1 c2 f2 c3 f3 c4 f4 c5 f5 c6 f6 c7 f7
        refine hK.out _ _ (HSu.out _ HTws12.out) (fun hHeld => ?_)
        clear hK K
        try simp only [Act.put, List.setIfInBounds_toArray, List.set_cons_zero, List.set_cons_succ]
        refine wpAnyH_take (i := 13) (oi := ⟨some 12, _, _, _, _, _⟩) (v := ?s11u) rfl (by kernel_rfl) (by kernel_rfl) (by kernel_rfl) (fun _ _ _ h => h) (Or.inl ⟨by rfl, ?s11p⟩) hHeld ?s11q
        case s11p => (intro W hSw; (try dsimp only at hSw); (try obtain s1 := hSw); go_simp; try with_reducible rfl)
        try simp only [Act.put, List.setIfInBounds_toArray, List.set_cons_zero, List.set_cons_succ]
        refine wpAnyH_done (by kernel_rfl) ?_ _
        go_wp2_with fail
        go_meet
        case rel => exact ⟨R, a, b, c, d, kk, rfl, rfl, HRow2, HV, HBws12, HTws12⟩
      · go_simp
        obtain ⟨ws11, hws11⟩ : ∃ X, (w1.alloc (.cells #[.int .i64 0, .int .i64 0, .int .i64 0, .int .i64 0, .int .i64 0, .int .i64 0, .int .i64 0, .int .i64 0] 32)).drew = X := ⟨_, rfl⟩
        rw [hws11]
        have HRow : Hid (ws11.heap[w1.drew.heap.size]? = some (.cells #[.int .i64 0, .int .i64 0, .int .i64 0, .int .i64 0, .int .i64 0, .int .i64 0, .int .i64 0, .int .i64 0] 32 (0, 0))) := Lib.hid (by rw [← hws11]; exact heap_alloc_new w1 _)
        have hb : Below w1.drew.heap.size w1.drew ws11 := by rw [← hws11]; exact (Below.refl _ w1.drew).alloc (Nat.le_refl _) _
        have HBws11 := Lib.hid (HB1d.out.trans (hb.mono HB1d.out.size))
        have HTws11 := Lib.hid ((Below.refl w1.drew.heap.size w1.drew).trans (hb.mono (Below.refl w1.drew.heap.size w1.drew).size))
        have HRl : Hid (w1.drew.heap.size < ws11.heap.size) := Lib.hid (by rw [← hws11]; have := size_al w1 (.cells #[.int .i64 0, .int .i64 0, .int .i64 0, .int .i64 0, .int .i64 0, .int .i64 0, .int .i64 0, .int .i64 0] 32); exact Nat.lt_of_lt_of_eq (Nat.lt_succ_self _) this.symm)
        have HRg : Hid (w1.drew.heap.size ≤ w1.drew.heap.size) := Lib.hid ((Below.refl w1.drew.heap.size w1.drew).size)
        obtain ⟨R, hR⟩ : ∃ R, w1.heap.size = R := ⟨_, rfl⟩
        replace HRow : Hid (ws11.heap[w1.heap.size]? = some (.cells #[.int .i64 0, .int .i64 0, .int .i64 0, .int .i64 0, .int .i64 0, .int .i64 0, .int .i64 0, .int .i64 0] 32 (0, 0))) := HRow
        replace HRl : Hid (w1.heap.size < ws11.heap.size) := HRl
        replace HRg : Hid (w1.drew.heap.size ≤ w1.heap.size) := HRg
        rw [hR] at HRow HRl HRg ⊢
        clear hb hws11
        refine hK.out _ _ (HSu.out _ HTws11.out) (fun hHeld => ?_)
        clear hK K
        try simp only [Act.put, List.setIfInBounds_toArray, List.set_cons_zero, List.set_cons_succ]
        refine wpAnyH_ready (rs := [7]) (by kernel_rfl) (by simp) ?_
        refine (AllReadyH.cons (o := ⟨some 37, _, _, _, _, _⟩) rfl (fun K hK => ?_) AllReadyH.nil)
        go_simp
        go_at_call 11
        (with_reducible refine (HRun2.out _ HBws11.out).mono ?_)
        rintro e ws7 ⟨a, b, c, d, kk, rfl, hv, hb⟩
        have HV := Lib.hid hv
        have HBws7 := Lib.hid (HBws11.out.trans (hb.mono HBws11.out.size))
        have HTws7 := Lib.hid (HTws11.out.trans (hb.mono HTws11.out.size))
        have hrow := HRow.out
        clear HRow
        have HRow := Lib.hid ((hb.block _ (by have := HRl.out; omega)).trans hrow)
        clear hrow
        clear hv hb
        refine hK.out _ _ (HSu.out _ HTws7.out) (fun hHeld => ?_)
        clear hK K
        try simp only [Act.put, List.setIfInBounds_toArray, List.set_cons_zero, List.set_cons_succ]
        refine wpAnyH_take (i := 8) (oi := ⟨some 29, _, _, _, _, _⟩) (v := ?s12u) rfl (by kernel_rfl) (by kernel_rfl) (by kernel_rfl) (fun _ _ _ h => h) (Or.inl ⟨by rfl, ?s12p⟩) hHeld ?s12q
        case s12p => (intro W hSw; (try dsimp only at hSw); (try obtain s1 := hSw); go_simp; try with_reducible rfl)
        try simp only [Act.put, List.setIfInBounds_toArray, List.set_cons_zero, List.set_cons_succ]
        refine wpAnyH_take (i := 9) (oi := ⟨some 38, _, _, _, _, _⟩) (v := ?s13u) rfl (by kernel_rfl) (by kernel_rfl) (by kernel_rfl) (fun _ _ _ h => h) (Or.inl ⟨by rfl, ?s13p⟩) hHeld ?s13q
        case s13p => (intro W hSw; (try dsimp only at hSw); (try obtain s1 := hSw); go_simp; try with_reducible rfl)
        try simp only [Act.put, List.setIfInBounds_toArray, List.set_cons_zero, List.set_cons_succ]
        refine wpAnyH_take (i := 10) (oi := ⟨some 39, _, _, _, _, _⟩) (v := ?s14u) rfl (by kernel_rfl) (by kernel_rfl) (by kernel_rfl) (fun _ _ _ h => h) (Or.inl ⟨by rfl, ?s14p⟩) hHeld ?s14q
        case s14p => (intro W hSw; (try dsimp only at hSw); (try obtain s1 := hSw); go_simp; try with_reducible rfl)
        try simp only [Act.put, List.setIfInBounds_toArray, List.set_cons_zero, List.set_cons_succ]
        refine wpAnyH_ready (rs := [12]) (by kernel_rfl) (by simp) ?_
        refine (AllReadyH.cons (o := ⟨none, _, _, _, _, _⟩) rfl (fun K hK => ?_) AllReadyH.nil)
        have c0 : ws7.cell? ⟨R, 0, none⟩ = some (.int .i64 0) := cell_of_row ws7 _ 0 _ _ _ HRow.out
        have f0 : ws7.frozen? ⟨R, 0, none⟩ = false := frozen_of_row ws7 _ 0 _ _ HRow.out
        have c1 : ws7.cell? ⟨R, 1, none⟩ = some (.int .i64 0) := cell_of_row ws7 _ 1 _ _ _ HRow.out
        have f1 : ws7.frozen? ⟨R, 1, none⟩ = false := frozen_of_row ws7 _ 1 _ _ HRow.out
        have c2 : ws7.cell? ⟨R, 2, none⟩ = some (.int .i64 0) := cell_of_row ws7 _ 2 _ _ _ HRow.out
        have f2 : ws7.frozen? ⟨R, 2, none⟩ = false := frozen_of_row ws7 _ 2 _ _ HRow.out
        have c3 : ws7.cell? ⟨R, 3, none⟩ = some (.int .i64 0) := cell_of_row ws7 _ 3 _ _ _ HRow.out
        have f3 : ws7.frozen? ⟨R, 3, none⟩ = false := frozen_of_row ws7 _ 3 _ _ HRow.out
        have c4 : ws7.cell? ⟨R, 4, none⟩ = some (.int .i64 0) := cell_of_row ws7 _ 4 _ _ _ HRow.out
        have f4 : ws7.frozen? ⟨R, 4, none⟩ = false := frozen_of_row ws7 _ 4 _ _ HRow.out
        have c5 : ws7.cell? ⟨R, 5, none⟩ = some (.int .i64 0) := cell_of_row ws7 _ 5 _ _ _ HRow.out
        have f5 : ws7.frozen? ⟨R, 5, none⟩ = false := frozen_of_row ws7 _ 5 _ _ HRow.out
        have c6 : ws7.cell? ⟨R, 6, none⟩ = some (.int .i64 0) := cell_of_row ws7 _ 6 _ _ _ HRow.out
        have f6 : ws7.frozen? ⟨R, 6, none⟩ = false := frozen_of_row ws7 _ 6 _ _ HRow.out
        have c7 : ws7.cell? ⟨R, 7, none⟩ = some (.int .i64 0) := cell_of_row ws7 _ 7 _ _ _ HRow.out
        have f7 : ws7.frozen? ⟨R, 7, none⟩ = false := frozen_of_row ws7 _ 7 _ _ HRow.out
        go_simp
        obtain ⟨ws12, hws12⟩ : ∃ X, ((((((((ws7.setCell ⟨R, 0, none⟩ (.int .i64 a)).setCell ⟨R, 1, none⟩ (.int .i64 b)).setCell ⟨R, 2, none⟩ (.int .i64 0)).setCell ⟨R, 3, none⟩ (.int .i64 0)).setCell ⟨R, 4, none⟩ (.int .i64 0)).setCell ⟨R, 5, none⟩ (.int .i64 0)).setCell ⟨R, 6, none⟩ (.int .i64 c)).setCell ⟨R, 7, none⟩ (.int .i64 d)) = X := ⟨_, rfl⟩
        rw [hws12]
        have hrow2 := set8 HRow.out (.int .i64 a) (.int .i64 b) (.int .i64 0) (.int .i64 0) (.int .i64 0) (.int .i64 0) (.int .i64 c) (.int .i64 d)
        have hs : Below R ws7 ws12 := by rw [← hws12]; exact ((((((((Below.refl R ws7).setCell (Nat.le_refl _) _).setCell (Nat.le_refl _) _).setCell (Nat.le_refl _) _).setCell (Nat.le_refl _) _).setCell (Nat.le_refl _) _).setCell (Nat.le_refl _) _).setCell (Nat.le_refl _) _).setCell (Nat.le_refl _) _
        rw [hws12] at hrow2
        have HRow2 := Lib.hid hrow2
        have HBws12 := Lib.hid (HBws7.out.trans (hs.mono (Nat.le_trans HB1d.out.size HRg.out)))
        have HTws12 := Lib.hid (HTws7.out.trans (hs.mono HRg.out))
        clear hs hws12 hrow2 c0 f0 c1 f1 c2 f2 c3 f3 c4 f4 c5 f5 c6 f6 c7 f7
        refine hK.out _ _ (HSu.out _ HTws12.out) (fun hHeld => ?_)
        clear hK K
        try simp only [Act.put, List.setIfInBounds_toArray, List.set_cons_zero, List.set_cons_succ]
        refine wpAnyH_take (i := 13) (oi := ⟨some 12, _, _, _, _, _⟩) (v := ?s15u) rfl (by kernel_rfl) (by kernel_rfl) (by kernel_rfl) (fun _ _ _ h => h) (Or.inl ⟨by rfl, ?s15p⟩) hHeld ?s15q
        case s15p => (intro W hSw; (try dsimp only at hSw); (try obtain s1 := hSw); go_simp; try with_reducible rfl)
        try simp only [Act.put, List.setIfInBounds_toArray, List.set_cons_zero, List.set_cons_succ]
        refine wpAnyH_done (by kernel_rfl) ?_ _
        go_wp2_with fail
        go_meet
        case rel => exact ⟨R, a, b, c, d, kk, rfl, rfl, HRow2, HV, HBws12, HTws12⟩
    case rest =>
      obtain ⟨R, a, b, c, d, kk, rfl, rfl, HRow, HV, HBc, HTc⟩ := hcut
      obtain ⟨rfl, rfl, rfl, rfl, rfl⟩ := HV1.out.same HV.out
      clear HV HV1
      go_wp2_with (first
        | (first | (refine wpList_load_row rfl 32 _ rfl R rfl 32 _ (0, 0) _ HR2.out Tryz.underlying32 rfl (by kernel_rfl) ?_) | (refine wpList_load_row_w 32 _ rfl R rfl rfl 32 _ (0, 0) _ HR2.out Tryz.underlying32 rfl (by kernel_rfl) ?_))
        | (first | (refine wpList_load_row rfl 32 _ rfl R1 rfl 32 _ (0, 0) _ HR1.out Tryz.underlying32 rfl (by kernel_rfl) ?_) | (refine wpList_load_row_w 32 _ rfl R1 rfl rfl 32 _ (0, 0) _ HR1.out Tryz.underlying32 rfl (by kernel_rfl) ?_))
        | (go_at_call 18; go_loud (refine (HFact.out _ HBc.out).mono ?_; rintro e w3 ⟨rfl, hb3⟩; have HR2 := Lib.hid ((hb3.block _ (Array.getElem?_eq_some_iff.1 HRow.out).1).trans HRow.out); have HR1 := Lib.hid (HRo.out w3 (HTc.out.trans (hb3.mono HTc.out.size))); have HB3 := Lib.hid (HBc.out.trans (hb3.mono HBc.out.size)); clear hb3)))
      go_ret
      exact ⟨rfl, HB3.out⟩
end Go.Proofs.YtaebebpldkciiaaGreatDoor
