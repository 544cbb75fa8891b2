/- TopCentre: the walk. -/
import Derived.Test.YtaebebpldkciiaaGreatDoorS17
namespace Go.Proofs.YtaebebpldkciiaaGreatDoor
open Go.RowKit

set_option maxRecDepth 100000 in
theorem eq32 (w : World) : (Op.equalIn 10000 32 (.agg #[.int .i64 0, .int .i64 0, .int .i64 0, .int .i64 0, .int .i64 0, .int .i64 0, .int .i64 0, .int .i64 0]) (.agg #[.int .i64 0, .int .i64 0, .int .i64 0, .int .i64 0, .int .i64 0, .int .i64 0, .int .i64 0, .int .i64 0])).run Tryz.prog w = .ok true w := by
  have u3 := Tryz.underlying3
  have a3 := Tryz.isAgg3
  have z3 := Tryz.sizeOf3
  have hS : Tryz.prog.underlying 32 = some (.struct (Tryz.prog.fieldsOf 32)) := by kernel_rfl
  have hp : Tryz.prog.stoodInHeld 32 = false := by kernel_rfl
  rw [show (10000 : Nat) = 9999 + 1 from rfl, run_equalIn_agg w 9999 32 _ _ hS hp]
  simp only [Program.fieldsOf, Tryz.underlying32]
  go_simp

set_option maxRecDepth 100000 in
set_option maxHeartbeats 16000000 in
theorem TopCentre_any (S : Su) (l : List Inp) (hs : List Hd) (n : Nat) (A : Option Addr) (cA : Nat) (pA : Option Addr) (pn pc : Nat) (pk : Nat → Int) (w : World) (hW : SeaW w) (hI : SArg l hs A n cA w) (hP : PArg pk pA pn pc w) :
    Calls Tryz.prog 3 #[suA S, .slice A n cA, .slice pA pn pc] w fun e w' => e = .returned (.bool true) ∧ Below w.heap.size w w' := by
  obtain ⟨m, hm⟩ : ∃ m, min n 16 = m := ⟨_, rfl⟩
  obtain ⟨q, hq⟩ : ∃ q, min pn 30 = q := ⟨_, rfl⟩
  have hmi : min (n : Int) 16 = (m : Int) := by omega
  have hqi : min (pn : Int) 30 = (q : Int) := by omega
  obtain ⟨A2, c2, hsl, hA2⟩ := takeIn (A := A) (c := cA) n m (by omega) hI.cap.1 hI.cap.2 hI.nil
  obtain ⟨pA2, c3, hsp, hpA2⟩ := takePk (A := pA) (c := pc) pn q (by omega) hP.cap.1 hP.cap.2 hP.nil
  have HRun := Lib.hid (fun (W : World) (hb : Below w.heap.size w W) => Run_first (S := S) (c2 := c2) (c3 := c3) hW hI hP hb (show m ≤ n by omega) (by omega) (show q ≤ pn by omega) (by omega) hA2 hpA2)
  have HFact := Lib.hid (fun (W : World) (hb : Below w.heap.size w W) => fact10_any W (hW.below hb))
  obtain ⟨V, hV⟩ : ∃ V, w.alloc (suO S) = V := ⟨_, rfl⟩
  have HBV : Hid (Below w.heap.size w V) := Lib.hid (by rw [← hV]; exact (Below.refl _ _).alloc (Nat.le_refl _) _)
  have hg0 : SuAt S w.heap.size V := by rw [← hV]; exact heap_alloc_new _ _
  have HZ : Hid (V.heap.size = w.heap.size + 1) := Lib.hid (by rw [← hV, size_al])
  unfold SuAt suL at hg0
  have HSuV := Lib.hid (fun (W : World) (hb : Below V.heap.size V W) => (hb.block w.heap.size (by have := HZ.out; omega)).trans hg0)
  unfold suO at hV
  unfold suA setupA at HRun ⊢
  clear hW hI hP hA2 hpA2 hm hq hg0
  go_enter Tryz.func3, Tryz.ntmps3
  go_upto_region 3 with (go_at_call 10; go_loud (refine (HFact.out _ HBV.out).mono ?_; rintro e w1 ⟨rfl, hb1⟩; have HB1 := Lib.hid hb1; clear hb1))
  have HB1d : Hid (Below w.heap.size w w1.drew) := Lib.hid ((HBV.out.trans (HB1.out.mono HBV.out.size)).drew)
  have HSu := Lib.hid (fun (W : World) (hb : Below w1.drew.heap.size w1.drew W) => HSuV.out W (HB1.out.drew.trans (hb.mono HB1.out.size)))
  go_cut [7, 8] from 9 to 50 (fun s7 s8 wx => ∃ (R : Nat) (a b c d kk : Int), s7 = .pointer (some ⟨R, 0, none⟩) ∧ s8 = .int .i64 kk ∧ Hid (wx.heap[R]? = some (.cells #[.int .i64 a, .int .i64 b, .int .i64 0, .int .i64 0, .int .i64 0, .int .i64 0, .int .i64 c, .int .i64 d] 32 (0, 0))) ∧ Hid (RunVal S (l.take m) a b c d kk) ∧ Hid (Below w.heap.size w wx) ∧ Hid (Below w1.drew.heap.size w1.drew wx))
  case first =>
    refine wp_region_held_drew (S := (fun W => W.heap[w.heap.size]? = some (.cells #[.int .i64 S.lat, .int .i64 S.vert, .int .i64 (S.g 0), .int .i64 (S.g 1), .int .i64 (S.g 2), .int .i64 (S.g 3), .int .i64 (S.g 4), .int .i64 (S.g 5), .int .i64 (S.g 6), .int .i64 (S.g 7), .int .i64 (S.g 8), .int .i64 (S.g 9), .int .i64 (S.g 10), .int .i64 (S.g 11), .int .i64 (S.g 12), .int .i64 (S.g 13), .int .i64 (S.g 14), .int .i64 (S.g 15)] 27 (0, 0)))) (by kernel_rfl) (HSu.out _ (Below.refl _ _)) (fun hHeld => ?_)
    refine wpAnyH_take (i := 0) (oi := ⟨some 12, _, _, _, _, _⟩) (v := ?r1u) rfl (by kernel_rfl) (by kernel_rfl) (by kernel_rfl) (fun _ _ _ h => h) (Or.inl ⟨by rfl, ?r1p⟩) hHeld ?r1q
    case r1p => (intro W hSw; refine run_exec_row (P := Tryz.prog) 27 (.tmp 3) ?_ w.heap.size ?_ 27 _ (0, 0) _ hSw Tryz.underlying27 rfl (by kernel_rfl) <;> rfl)
    try simp only [Act.put, List.setIfInBounds_toArray, List.set_cons_zero, List.set_cons_succ]
    refine wpAnyH_take (i := 1) (oi := ⟨some 13, _, _, _, _, _⟩) (v := ?r2u) rfl (by kernel_rfl) (by kernel_rfl) (by kernel_rfl) (fun _ _ _ h => h) (Or.inl ⟨by rfl, ?r2p⟩) hHeld ?r2q
    case r2p => (intro W hSw; (try dsimp only at hSw); (try obtain s1 := hSw); go_simp; try with_reducible rfl)
    try simp only [Act.put, List.setIfInBounds_toArray, List.set_cons_zero, List.set_cons_succ]
    refine wpAnyH_take (i := 2) (oi := ⟨some 14, _, _, _, _, _⟩) (v := ?r3u) rfl (by kernel_rfl) (by kernel_rfl) (by kernel_rfl) (fun _ _ _ h => h) (Or.inl ⟨by rfl, ?r3p⟩) hHeld ?r3q
    case r3p => (intro W hSw; (try dsimp only at hSw); (try obtain s1 := hSw); go_simp; try with_reducible rfl)
    try simp only [Act.put, List.setIfInBounds_toArray, List.set_cons_zero, List.set_cons_succ]
    refine wpAnyH_take (i := 3) (oi := ⟨some 15, _, _, _, _, _⟩) (v := ?r4u) rfl (by kernel_rfl) (by kernel_rfl) (by kernel_rfl) (fun _ _ _ h => h) (Or.inl ⟨by rfl, ?r4p⟩) hHeld ?r4q
    case r4p => (intro W hSw; (try dsimp only at hSw); (try obtain s1 := hSw); go_simp; try with_reducible rfl)
    try simp only [Act.put, List.setIfInBounds_toArray, List.set_cons_zero, List.set_cons_succ]
    refine wpAnyH_take (i := 4) (oi := ⟨some 16, _, _, _, _, _⟩) (v := ?r5u) rfl (by kernel_rfl) (by kernel_rfl) (by kernel_rfl) (fun _ _ _ h => h) (Or.inl ⟨by rfl, ?r5p⟩) hHeld ?r5q
    case r5p => (intro W hSw; (try dsimp only at hSw); (try obtain s1 := hSw); go_simp; try with_reducible rfl)
    try simp only [Act.put, List.setIfInBounds_toArray, List.set_cons_zero, List.set_cons_succ]
    refine wpAnyH_take (i := 5) (oi := ⟨some 17, _, _, _, _, _⟩) (v := ?r6u) rfl (by kernel_rfl) (by kernel_rfl) (by kernel_rfl) (fun _ _ _ h => h) (Or.inl ⟨by rfl, ?r6p⟩) hHeld ?r6q
    case r6p => (intro W hSw; (try dsimp only at hSw); (try obtain s1 := hSw); go_simp; try with_reducible rfl)
    try simp only [Act.put, List.setIfInBounds_toArray, List.set_cons_zero, List.set_cons_succ]
    refine wpAnyH_take (i := 6) (oi := ⟨some 18, _, _, _, _, _⟩) (v := ?r7u) rfl (by kernel_rfl) (by kernel_rfl) (by kernel_rfl) (fun _ _ _ h => h) (Or.inl ⟨by rfl, ?r7p⟩) hHeld ?r7q
    case r7p => (intro W hSw; (try dsimp only at hSw); (try obtain s1 := hSw); go_simp; try with_reducible rfl)
    try simp only [Act.put, List.setIfInBounds_toArray, List.set_cons_zero, List.set_cons_succ]
    refine wpAnyH_take (i := 7) (oi := ⟨some 19, _, _, _, _, _⟩) (v := ?r8u) rfl (by kernel_rfl) (by kernel_rfl) (by kernel_rfl) (fun _ _ _ h => h) (Or.inl ⟨by rfl, ?r8p⟩) hHeld ?r8q
    case r8p => (intro W hSw; (try dsimp only at hSw); (try obtain s1 := hSw); go_simp; try with_reducible rfl)
    try simp only [Act.put, List.setIfInBounds_toArray, List.set_cons_zero, List.set_cons_succ]
    refine wpAnyH_take (i := 8) (oi := ⟨some 20, _, _, _, _, _⟩) (v := ?r9u) rfl (by kernel_rfl) (by kernel_rfl) (by kernel_rfl) (fun _ _ _ h => h) (Or.inl ⟨by rfl, ?r9p⟩) hHeld ?r9q
    case r9p => (intro W hSw; (try dsimp only at hSw); (try obtain s1 := hSw); go_simp; try with_reducible rfl)
    try simp only [Act.put, List.setIfInBounds_toArray, List.set_cons_zero, List.set_cons_succ]
    refine wpAnyH_take (i := 9) (oi := ⟨some 21, _, _, _, _, _⟩) (v := ?r10u) rfl (by kernel_rfl) (by kernel_rfl) (by kernel_rfl) (fun _ _ _ h => h) (Or.inl ⟨by rfl, ?r10p⟩) hHeld ?r10q
    case r10p => (intro W hSw; (try dsimp only at hSw); (try obtain s1 := hSw); go_simp; try with_reducible rfl)
    try simp only [Act.put, List.setIfInBounds_toArray, List.set_cons_zero, List.set_cons_succ]
    refine wpAnyH_take (i := 10) (oi := ⟨some 22, _, _, _, _, _⟩) (v := ?r11u) rfl (by kernel_rfl) (by kernel_rfl) (by kernel_rfl) (fun _ _ _ h => h) (Or.inl ⟨by rfl, ?r11p⟩) hHeld ?r11q
    case r11p => (intro W hSw; (try dsimp only at hSw); (try obtain s1 := hSw); go_simp; try with_reducible rfl)
    try simp only [Act.put, List.setIfInBounds_toArray, List.set_cons_zero, List.set_cons_succ]
    refine wpAnyH_ready (rs := [11, 15]) (by kernel_rfl) (by simp) ?_
    refine (AllReadyH.cons (o := ⟨some 23, _, _, _, _, _⟩) rfl (fun K hK => ?_) (AllReadyH.cons (o := ⟨some 7, _, _, _, _, _⟩) rfl (fun K hK => ?_) AllReadyH.nil))
    · go_simp
      go_at_call 11
      (with_reducible refine (HRun.out _ HB1d.out).mono ?_)
      rintro e wr11 ⟨a, b, c, d, kk, rfl, hv, hb⟩
      have HV := Lib.hid hv
      have HBwr11 := Lib.hid (HB1d.out.trans (hb.mono HB1d.out.size))
      have HTwr11 := Lib.hid ((Below.refl w1.drew.heap.size w1.drew).trans (hb.mono (Below.refl w1.drew.heap.size w1.drew).size))
      clear hv hb
      refine hK.out _ _ (HSu.out _ HTwr11.out) (fun hHeld => ?_)
      clear hK K
      try simp only [Act.put, List.setIfInBounds_toArray, List.set_cons_zero, List.set_cons_succ]
      refine wpAnyH_take (i := 12) (oi := ⟨some 11, _, _, _, _, _⟩) (v := ?r12u) rfl (by kernel_rfl) (by kernel_rfl) (by kernel_rfl) (fun _ _ _ h => h) (Or.inl ⟨by rfl, ?r12p⟩) hHeld ?r12q
      case r12p => (intro W hSw; (try dsimp only at hSw); (try obtain s1 := hSw); go_simp; try with_reducible rfl)
      try simp only [Act.put, List.setIfInBounds_toArray, List.set_cons_zero, List.set_cons_succ]
      refine wpAnyH_take (i := 13) (oi := ⟨some 24, _, _, _, _, _⟩) (v := ?r13u) rfl (by kernel_rfl) (by kernel_rfl) (by kernel_rfl) (fun _ _ _ h => h) (Or.inl ⟨by rfl, ?r13p⟩) hHeld ?r13q
      case r13p => (intro W hSw; (try dsimp only at hSw); (try obtain s1 := hSw); go_simp; try with_reducible rfl)
      try simp only [Act.put, List.setIfInBounds_toArray, List.set_cons_zero, List.set_cons_succ]
      refine wpAnyH_take (i := 14) (oi := ⟨some 25, _, _, _, _, _⟩) (v := ?r14u) rfl (by kernel_rfl) (by kernel_rfl) (by kernel_rfl) (fun _ _ _ h => h) (Or.inl ⟨by rfl, ?r14p⟩) hHeld ?r14q
      case r14p => (intro W hSw; (try dsimp only at hSw); (try obtain s1 := hSw); go_simp; try with_reducible rfl)
      try simp only [Act.put, List.setIfInBounds_toArray, List.set_cons_zero, List.set_cons_succ]
      refine wpAnyH_ready (rs := [15]) (by kernel_rfl) (by simp) ?_
      refine (AllReadyH.cons (o := ⟨some 7, _, _, _, _, _⟩) rfl (fun K hK => ?_) AllReadyH.nil)
      go_simp
      obtain ⟨wr15, hwr15⟩ : ∃ X, wr11.alloc (.cells #[.int .i64 0, .int .i64 0, .int .i64 0, .int .i64 0, .int .i64 0, .int .i64 0, .int .i64 0, .int .i64 0] 32) = X := ⟨_, rfl⟩
      rw [hwr15]
      have HRow : Hid (wr15.heap[wr11.heap.size]? = some (.cells #[.int .i64 0, .int .i64 0, .int .i64 0, .int .i64 0, .int .i64 0, .int .i64 0, .int .i64 0, .int .i64 0] 32 (0, 0))) := Lib.hid (by rw [← hwr15]; exact heap_alloc_new wr11 _)
      have hb : Below wr11.heap.size wr11 wr15 := by rw [← hwr15]; exact (Below.refl _ wr11).alloc (Nat.le_refl _) _
      have HBwr15 := Lib.hid (HBwr11.out.trans (hb.mono HBwr11.out.size))
      have HTwr15 := Lib.hid (HTwr11.out.trans (hb.mono HTwr11.out.size))
      have HRl : Hid (wr11.heap.size < wr15.heap.size) := Lib.hid (by rw [← hwr15]; have := size_al wr11 (.cells #[.int .i64 0, .int .i64 0, .int .i64 0, .int .i64 0, .int .i64 0, .int .i64 0, .int .i64 0, .int .i64 0] 32); exact Nat.lt_of_lt_of_eq (Nat.lt_succ_self _) this.symm)
      have HRg : Hid (w1.drew.heap.size ≤ wr11.heap.size) := Lib.hid (HTwr11.out.size)
      obtain ⟨R, hR⟩ : ∃ R, wr11.heap.size = R := ⟨_, rfl⟩
      replace HRow : Hid (wr15.heap[wr11.heap.size]? = some (.cells #[.int .i64 0, .int .i64 0, .int .i64 0, .int .i64 0, .int .i64 0, .int .i64 0, .int .i64 0, .int .i64 0] 32 (0, 0))) := HRow
      replace HRl : Hid (wr11.heap.size < wr15.heap.size) := HRl
      replace HRg : Hid (w1.drew.heap.size ≤ wr11.heap.size) := HRg
      rw [hR] at HRow HRl HRg ⊢
      clear hb hwr15
      refine hK.out _ _ (HSu.out _ HTwr15.out) (fun hHeld => ?_)
      clear hK K
      try simp only [Act.put, List.setIfInBounds_toArray, List.set_cons_zero, List.set_cons_succ]
      refine wpAnyH_ready (rs := [16]) (by kernel_rfl) (by simp) ?_
      refine (AllReadyH.cons (o := ⟨none, _, _, _, _, _⟩) rfl (fun K hK => ?_) AllReadyH.nil)
      have c0 : wr15.cell? ⟨R, 0, none⟩ = some (.int .i64 0) := cell_of_row wr15 _ 0 _ _ _ HRow.out
      have f0 : wr15.frozen? ⟨R, 0, none⟩ = false := frozen_of_row wr15 _ 0 _ _ HRow.out
      have c1 : wr15.cell? ⟨R, 1, none⟩ = some (.int .i64 0) := cell_of_row wr15 _ 1 _ _ _ HRow.out
      have f1 : wr15.frozen? ⟨R, 1, none⟩ = false := frozen_of_row wr15 _ 1 _ _ HRow.out
      have c2 : wr15.cell? ⟨R, 2, none⟩ = some (.int .i64 0) := cell_of_row wr15 _ 2 _ _ _ HRow.out
      have f2 : wr15.frozen? ⟨R, 2, none⟩ = false := frozen_of_row wr15 _ 2 _ _ HRow.out
      have c3 : wr15.cell? ⟨R, 3, none⟩ = some (.int .i64 0) := cell_of_row wr15 _ 3 _ _ _ HRow.out
      have f3 : wr15.frozen? ⟨R, 3, none⟩ = false := frozen_of_row wr15 _ 3 _ _ HRow.out
      have c4 : wr15.cell? ⟨R, 4, none⟩ = some (.int .i64 0) := cell_of_row wr15 _ 4 _ _ _ HRow.out
      have f4 : wr15.frozen? ⟨R, 4, none⟩ = false := frozen_of_row wr15 _ 4 _ _ HRow.out
      have c5 : wr15.cell? ⟨R, 5, none⟩ = some (.int .i64 0) := cell_of_row wr15 _ 5 _ _ _ HRow.out
      have f5 : wr15.frozen? ⟨R, 5, none⟩ = false := frozen_of_row wr15 _ 5 _ _ HRow.out
      have c6 : wr15.cell? ⟨R, 6, none⟩ = some (.int .i64 0) := cell_of_row wr15 _ 6 _ _ _ HRow.out
      have f6 : wr15.frozen? ⟨R, 6, none⟩ = false := frozen_of_row wr15 _ 6 _ _ HRow.out
      have c7 : wr15.cell? ⟨R, 7, none⟩ = some (.int .i64 0) := cell_of_row wr15 _ 7 _ _ _ HRow.out
      have f7 : wr15.frozen? ⟨R, 7, none⟩ = false := frozen_of_row wr15 _ 7 _ _ HRow.out
      go_simp
      obtain ⟨wr16, hwr16⟩ : ∃ X, ((((((((wr15.setCell ⟨R, 0, none⟩ (.int .i64 a)).setCell ⟨R, 1, none⟩ (.int .i64 b)).setCell ⟨R, 2, none⟩ (.int .i64 0)).setCell ⟨R, 3, none⟩ (.int .i64 0)).setCell ⟨R, 4, none⟩ (.int .i64 0)).setCell ⟨R, 5, none⟩ (.int .i64 0)).setCell ⟨R, 6, none⟩ (.int .i64 c)).setCell ⟨R, 7, none⟩ (.int .i64 d)) = X := ⟨_, rfl⟩
      rw [hwr16]
      have hrow2 := set8 HRow.out (.int .i64 a) (.int .i64 b) (.int .i64 0) (.int .i64 0) (.int .i64 0) (.int .i64 0) (.int .i64 c) (.int .i64 d)
      have hs : Below R wr15 wr16 := by rw [← hwr16]; exact ((((((((Below.refl R wr15).setCell (Nat.le_refl _) _).setCell (Nat.le_refl _) _).setCell (Nat.le_refl _) _).setCell (Nat.le_refl _) _).setCell (Nat.le_refl _) _).setCell (Nat.le_refl _) _).setCell (Nat.le_refl _) _).setCell (Nat.le_refl _) _
      rw [hwr16] at hrow2
      have HRow2 := Lib.hid hrow2
      have HBwr16 := Lib.hid (HBwr15.out.trans (hs.mono (Nat.le_trans HB1d.out.size HRg.out)))
      have HTwr16 := Lib.hid (HTwr15.out.trans (hs.mono HRg.out))
      clear hs hwr16 hrow2 c0 f0 c1 f1 c2 f2 c3 f3 c4 f4 c5 f5 c6 f6 c7 f7
      refine hK.out _ _ (HSu.out _ HTwr16.out) (fun hHeld => ?_)
      clear hK K
      try simp only [Act.put, List.setIfInBounds_toArray, List.set_cons_zero, List.set_cons_succ]
      refine wpAnyH_take (i := 17) (oi := ⟨some 8, _, _, _, _, _⟩) (v := ?r15u) rfl (by kernel_rfl) (by kernel_rfl) (by kernel_rfl) (fun _ _ _ h => h) (Or.inl ⟨by rfl, ?r15p⟩) hHeld ?r15q
      case r15p => (intro W hSw; (try dsimp only at hSw); (try obtain s1 := hSw); go_simp; try with_reducible rfl)
      try simp only [Act.put, List.setIfInBounds_toArray, List.set_cons_zero, List.set_cons_succ]
      refine wpAnyH_done (by kernel_rfl) ?_ _
      go_wp2_with fail
      go_meet
      case rel => exact ⟨R, a, b, c, d, kk, rfl, rfl, HRow2, HV, HBwr16, HTwr16⟩
    · go_simp
      obtain ⟨wr15, hwr15⟩ : ∃ X, (w1.alloc (.cells #[.int .i64 0, .int .i64 0, .int .i64 0, .int .i64 0, .int .i64 0, .int .i64 0, .int .i64 0, .int .i64 0] 32)).drew = X := ⟨_, rfl⟩
      rw [hwr15]
      have HRow : Hid (wr15.heap[w1.drew.heap.size]? = some (.cells #[.int .i64 0, .int .i64 0, .int .i64 0, .int .i64 0, .int .i64 0, .int .i64 0, .int .i64 0, .int .i64 0] 32 (0, 0))) := Lib.hid (by rw [← hwr15]; exact heap_alloc_new w1 _)
      have hb : Below w1.drew.heap.size w1.drew wr15 := by rw [← hwr15]; exact (Below.refl _ w1.drew).alloc (Nat.le_refl _) _
      have HBwr15 := Lib.hid (HB1d.out.trans (hb.mono HB1d.out.size))
      have HTwr15 := Lib.hid ((Below.refl w1.drew.heap.size w1.drew).trans (hb.mono (Below.refl w1.drew.heap.size w1.drew).size))
      have HRl : Hid (w1.drew.heap.size < wr15.heap.size) := Lib.hid (by rw [← hwr15]; have := size_al w1 (.cells #[.int .i64 0, .int .i64 0, .int .i64 0, .int .i64 0, .int .i64 0, .int .i64 0, .int .i64 0, .int .i64 0] 32); exact Nat.lt_of_lt_of_eq (Nat.lt_succ_self _) this.symm)
      have HRg : Hid (w1.drew.heap.size ≤ w1.drew.heap.size) := Lib.hid ((Below.refl w1.drew.heap.size w1.drew).size)
      obtain ⟨R, hR⟩ : ∃ R, w1.heap.size = R := ⟨_, rfl⟩
      replace HRow : Hid (wr15.heap[w1.heap.size]? = some (.cells #[.int .i64 0, .int .i64 0, .int .i64 0, .int .i64 0, .int .i64 0, .int .i64 0, .int .i64 0, .int .i64 0] 32 (0, 0))) := HRow
      replace HRl : Hid (w1.heap.size < wr15.heap.size) := HRl
      replace HRg : Hid (w1.drew.heap.size ≤ w1.heap.size) := HRg
      rw [hR] at HRow HRl HRg ⊢
      clear hb hwr15
      refine hK.out _ _ (HSu.out _ HTwr15.out) (fun hHeld => ?_)
      clear hK K
      try simp only [Act.put, List.setIfInBounds_toArray, List.set_cons_zero, List.set_cons_succ]
      refine wpAnyH_ready (rs := [11]) (by kernel_rfl) (by simp) ?_
      refine (AllReadyH.cons (o := ⟨some 23, _, _, _, _, _⟩) rfl (fun K hK => ?_) AllReadyH.nil)
      go_simp
      go_at_call 11
      (with_reducible refine (HRun.out _ HBwr15.out).mono ?_)
      rintro e wr11 ⟨a, b, c, d, kk, rfl, hv, hb⟩
      have HV := Lib.hid hv
      have HBwr11 := Lib.hid (HBwr15.out.trans (hb.mono HBwr15.out.size))
      have HTwr11 := Lib.hid (HTwr15.out.trans (hb.mono HTwr15.out.size))
      have hrow := HRow.out
      clear HRow
      have HRow := Lib.hid ((hb.block _ (by have := HRl.out; omega)).trans hrow)
      clear hrow
      clear hv hb
      refine hK.out _ _ (HSu.out _ HTwr11.out) (fun hHeld => ?_)
      clear hK K
      try simp only [Act.put, List.setIfInBounds_toArray, List.set_cons_zero, List.set_cons_succ]
      refine wpAnyH_take (i := 12) (oi := ⟨some 11, _, _, _, _, _⟩) (v := ?r16u) rfl (by kernel_rfl) (by kernel_rfl) (by kernel_rfl) (fun _ _ _ h => h) (Or.inl ⟨by rfl, ?r16p⟩) hHeld ?r16q
      case r16p => (intro W hSw; (try dsimp only at hSw); (try obtain s1 := hSw); go_simp; try with_reducible rfl)
      try simp only [Act.put, List.setIfInBounds_toArray, List.set_cons_zero, List.set_cons_succ]
      refine wpAnyH_take (i := 13) (oi := ⟨some 24, _, _, _, _, _⟩) (v := ?r17u) rfl (by kernel_rfl) (by kernel_rfl) (by kernel_rfl) (fun _ _ _ h => h) (Or.inl ⟨by rfl, ?r17p⟩) hHeld ?r17q
      case r17p => (intro W hSw; (try dsimp only at hSw); (try obtain s1 := hSw); go_simp; try with_reducible rfl)
      try simp only [Act.put, List.setIfInBounds_toArray, List.set_cons_zero, List.set_cons_succ]
      refine wpAnyH_take (i := 14) (oi := ⟨some 25, _, _, _, _, _⟩) (v := ?r18u) rfl (by kernel_rfl) (by kernel_rfl) (by kernel_rfl) (fun _ _ _ h => h) (Or.inl ⟨by rfl, ?r18p⟩) hHeld ?r18q
      case r18p => (intro W hSw; (try dsimp only at hSw); (try obtain s1 := hSw); go_simp; try with_reducible rfl)
      try simp only [Act.put, List.setIfInBounds_toArray, List.set_cons_zero, List.set_cons_succ]
      refine wpAnyH_ready (rs := [16]) (by kernel_rfl) (by simp) ?_
      refine (AllReadyH.cons (o := ⟨none, _, _, _, _, _⟩) rfl (fun K hK => ?_) AllReadyH.nil)
      have c0 : wr11.cell? ⟨R, 0, none⟩ = some (.int .i64 0) := cell_of_row wr11 _ 0 _ _ _ HRow.out
      have f0 : wr11.frozen? ⟨R, 0, none⟩ = false := frozen_of_row wr11 _ 0 _ _ HRow.out
      have c1 : wr11.cell? ⟨R, 1, none⟩ = some (.int .i64 0) := cell_of_row wr11 _ 1 _ _ _ HRow.out
      have f1 : wr11.frozen? ⟨R, 1, none⟩ = false := frozen_of_row wr11 _ 1 _ _ HRow.out
      have c2 : wr11.cell? ⟨R, 2, none⟩ = some (.int .i64 0) := cell_of_row wr11 _ 2 _ _ _ HRow.out
      have f2 : wr11.frozen? ⟨R, 2, none⟩ = false := frozen_of_row wr11 _ 2 _ _ HRow.out
      have c3 : wr11.cell? ⟨R, 3, none⟩ = some (.int .i64 0) := cell_of_row wr11 _ 3 _ _ _ HRow.out
      have f3 : wr11.frozen? ⟨R, 3, none⟩ = false := frozen_of_row wr11 _ 3 _ _ HRow.out
      have c4 : wr11.cell? ⟨R, 4, none⟩ = some (.int .i64 0) := cell_of_row wr11 _ 4 _ _ _ HRow.out
      have f4 : wr11.frozen? ⟨R, 4, none⟩ = false := frozen_of_row wr11 _ 4 _ _ HRow.out
      have c5 : wr11.cell? ⟨R, 5, none⟩ = some (.int .i64 0) := cell_of_row wr11 _ 5 _ _ _ HRow.out
      have f5 : wr11.frozen? ⟨R, 5, none⟩ = false := frozen_of_row wr11 _ 5 _ _ HRow.out
      have c6 : wr11.cell? ⟨R, 6, none⟩ = some (.int .i64 0) := cell_of_row wr11 _ 6 _ _ _ HRow.out
      have f6 : wr11.frozen? ⟨R, 6, none⟩ = false := frozen_of_row wr11 _ 6 _ _ HRow.out
      have c7 : wr11.cell? ⟨R, 7, none⟩ = some (.int .i64 0) := cell_of_row wr11 _ 7 _ _ _ HRow.out
      have f7 : wr11.frozen? ⟨R, 7, none⟩ = false := frozen_of_row wr11 _ 7 _ _ HRow.out
      go_simp
      obtain ⟨wr16, hwr16⟩ : ∃ X, ((((((((wr11.setCell ⟨R, 0, none⟩ (.int .i64 a)).setCell ⟨R, 1, none⟩ (.int .i64 b)).setCell ⟨R, 2, none⟩ (.int .i64 0)).setCell ⟨R, 3, none⟩ (.int .i64 0)).setCell ⟨R, 4, none⟩ (.int .i64 0)).setCell ⟨R, 5, none⟩ (.int .i64 0)).setCell ⟨R, 6, none⟩ (.int .i64 c)).setCell ⟨R, 7, none⟩ (.int .i64 d)) = X := ⟨_, rfl⟩
      rw [hwr16]
      have hrow2 := set8 HRow.out (.int .i64 a) (.int .i64 b) (.int .i64 0) (.int .i64 0) (.int .i64 0) (.int .i64 0) (.int .i64 c) (.int .i64 d)
      have hs : Below R wr11 wr16 := by rw [← hwr16]; exact ((((((((Below.refl R wr11).setCell (Nat.le_refl _) _).setCell (Nat.le_refl _) _).setCell (Nat.le_refl _) _).setCell (Nat.le_refl _) _).setCell (Nat.le_refl _) _).setCell (Nat.le_refl _) _).setCell (Nat.le_refl _) _).setCell (Nat.le_refl _) _
      rw [hwr16] at hrow2
      have HRow2 := Lib.hid hrow2
      have HBwr16 := Lib.hid (HBwr11.out.trans (hs.mono (Nat.le_trans HB1d.out.size HRg.out)))
      have HTwr16 := Lib.hid (HTwr11.out.trans (hs.mono HRg.out))
      clear hs hwr16 hrow2 c0 f0 c1 f1 c2 f2 c3 f3 c4 f4 c5 f5 c6 f6 c7 f7
      refine hK.out _ _ (HSu.out _ HTwr16.out) (fun hHeld => ?_)
      clear hK K
      try simp only [Act.put, List.setIfInBounds_toArray, List.set_cons_zero, List.set_cons_succ]
      refine wpAnyH_take (i := 17) (oi := ⟨some 8, _, _, _, _, _⟩) (v := ?r19u) rfl (by kernel_rfl) (by kernel_rfl) (by kernel_rfl) (fun _ _ _ h => h) (Or.inl ⟨by rfl, ?r19p⟩) hHeld ?r19q
      case r19p => (intro W hSw; (try dsimp only at hSw); (try obtain s1 := hSw); go_simp; try with_reducible rfl)
      try simp only [Act.put, List.setIfInBounds_toArray, List.set_cons_zero, List.set_cons_succ]
      refine wpAnyH_done (by kernel_rfl) ?_ _
      go_wp2_with fail
      go_meet
      case rel => exact ⟨R, a, b, c, d, kk, rfl, rfl, HRow2, HV, HBwr16, HTwr16⟩
  case rest =>
    obtain ⟨R, a, b, c, d, kk, rfl, rfl, HRow, HV, HBc, HTc⟩ := hcut
    have r0 : wc.cell? ⟨R, 0, none⟩ = some (.int .i64 a) := cell_of_row wc _ 0 _ _ _ HRow.out
    have r1 : wc.cell? ⟨R, 1, none⟩ = some (.int .i64 b) := cell_of_row wc _ 1 _ _ _ HRow.out
    have r2 : wc.cell? ⟨R, 2, none⟩ = some (.int .i64 0) := cell_of_row wc _ 2 _ _ _ HRow.out
    have r3 : wc.cell? ⟨R, 3, none⟩ = some (.int .i64 0) := cell_of_row wc _ 3 _ _ _ HRow.out
    have r4 : wc.cell? ⟨R, 4, none⟩ = some (.int .i64 0) := cell_of_row wc _ 4 _ _ _ HRow.out
    have r5 : wc.cell? ⟨R, 5, none⟩ = some (.int .i64 0) := cell_of_row wc _ 5 _ _ _ HRow.out
    have r6 : wc.cell? ⟨R, 6, none⟩ = some (.int .i64 c) := cell_of_row wc _ 6 _ _ _ HRow.out
    have r7 : wc.cell? ⟨R, 7, none⟩ = some (.int .i64 d) := cell_of_row wc _ 7 _ _ _ HRow.out
    rcases HV.out with ⟨hE, rfl, _⟩ | ⟨hE, hk, rfl, rfl, rfl, rfl⟩
    · clear hE HV
      go_wp2_with (first | (refine wpList_load_row rfl 32 _ rfl R rfl 32 _ (0, 0) _ HRow.out Tryz.underlying32 rfl (by kernel_rfl) ?_) | (refine wpList_load_row_w 32 _ rfl R rfl rfl 32 _ (0, 0) _ HRow.out Tryz.underlying32 rfl (by kernel_rfl) ?_))
      go_ret
      exact ⟨rfl, HBc.out⟩
    · have hbe := fun W => eq32 W
      have hkk : (kk == 0) = false := by simp [hk, hE]
      have hkk2 : (kk != 0) = true := by simp [hk, hE]
      clear hE hk HV r0 r1 r2 r3 r4 r5 r6 r7
      go_wp2_with (first | (refine wpList_load_row rfl 32 _ rfl R rfl 32 _ (0, 0) _ HRow.out Tryz.underlying32 rfl (by kernel_rfl) ?_) | (refine wpList_load_row_w 32 _ rfl R rfl rfl 32 _ (0, 0) _ HRow.out Tryz.underlying32 rfl (by kernel_rfl) ?_))
      go_ret
      exact ⟨rfl, HBc.out⟩
end Go.Proofs.YtaebebpldkciiaaGreatDoor
