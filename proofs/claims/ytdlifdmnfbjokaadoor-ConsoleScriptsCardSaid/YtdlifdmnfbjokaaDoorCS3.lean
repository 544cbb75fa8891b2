/- The walk of ConsoleScripts. -/
import Derived.Test.YtdlifdmnfbjokaaDoorCS2
import Derived.Lib.QuietBelow
import Derived.Test.YtdlifdmnfbjokaaDoorStill
namespace Go.Proofs.YtdlifdmnfbjokaaDoor
open Go.RowKit
open Go.Lib hiding intOf

theorem drop_get {l : List ByteArray} {i : Nat} (h : i < (dropE l).length) : (dropE l)[i]! = l[i]! := by
  have h2 := dropE_le l
  rw [getElem!_pos (dropE l) i h, getElem!_pos l i (by omega)]
  unfold dropE
  split
  · rw [List.getElem_dropLast]
  · rfl
theorem drop_last {l : List ByteArray} {m : Nat} (h : l.length = m + 1) : (l[m]! = .empty ∧ (dropE l).length = m) ∨ (l[m]! ≠ .empty ∧ (dropE l).length = m + 1) := by
  have e : l.getLast? = some l[m]! := by
    rw [List.getLast?_eq_getElem?, h, getElem!_pos l m (by omega), List.getElem?_eq_getElem (by omega)]
    rfl
  unfold dropE
  rw [e]
  by_cases hz : l[m]! = .empty
  · left
    rw [hz, if_pos rfl, List.length_dropLast, h]
    exact ⟨rfl, rfl⟩
  · right
    rw [if_neg (fun he => hz (Option.some.inj he))]
    exact ⟨hz, h⟩

set_option maxRecDepth 100000 in
theorem scripts_large (t : ByteArray) (w : World) (hs : 8192 < t.size) (hm : t.size ≤ maxLen) (he : Env w) : Calls Tryd.prog 4 #[.string t] w fun e w' => e = .returned (.bool true) ∧ Below w.heap.size w w' := by
  have HSc := Lib.hid (Script_large t w hs hm)
  have HF := Lib.hid (fun (W : World) (hb : Below w.heap.size w W) => (fact_any W (he.below hb)).mono fun e W2 h => (show e = .returned (.bool true) ∧ Below w.heap.size w W2 from ⟨h.1, hb.trans (h.2.mono hb.size)⟩))
  unfold maxLen at hm
  have b1 : decide ((8192 : Int) < (t.size : Int)) = true := decide_eq_true (by omega)
  clear hs he
  have tok : True := trivial
  go_enter Tryd.func4, Tryd.ntmps4
  go_wp2_with (first
    | (go_at_call 9; go_loud (refine HSc.out.mono ?_; rintro e w1 ⟨rfl, hb1⟩))
    | (go_at_call 7; go_loud (first | (have _t := tok; refine (HF.out _ (by exact hb1)).mono ?_; rintro e w2 ⟨rfl, hb2⟩; clear tok) | (refine (HF.out _ (by exact hb2)).mono ?_; rintro e w3 ⟨rfl, hb3⟩))))
  go_ret
  exact ⟨rfl, hb3⟩

set_option maxRecDepth 100000 in
set_option maxHeartbeats 8000000 in
theorem scripts_ok0 (t : ByteArray) (w : World) (m M : Nat) (hs : t.size ≤ 8192) (he : Env w) (hM : (linesB t).length = M) (hmM : M = m + 1) (hlast : (linesB t)[m]! = .empty) (hN : (linesOf t).length = m) (hall : ∀ i, i < (linesOf t).length → (parseC (linesOf t)[i]!).2 = 0) :
    Calls Tryd.prog 4 #[.string t] w fun e w' => e = .returned (.bool true) ∧ Below w.heap.size w w' := by
  have hsc := Script_yes t w hs he hall
  unfold ScOk at hsc
  have HF := Lib.hid (fun (W : World) (hb : Below w.heap.size w W) => fact_any W (he.below hb))
  have HSp := Lib.hid (fun (W : World) (hb : Below w.heap.size w W) => (Split_any t nl W rfl (by omega) (he.below hb)).mono fun e W2 h => (show e = .returned (.slice (some ⟨W.heap.size, 0, none⟩) M M) ∧ LnAt W.heap.size (linesB t) W2 ∧ Below W.heap.size W W2 ∧ W2.heap.size = W.heap.size + 1 from ⟨by
    have h1 := h.1
    have e1 : (splitB nl 0 (countB t nl) t).length = M := hM
    rw [e1] at h1
    exact h1, by rw [h.2]; exact LnAt.start _ _, by rw [h.2]; exact (Below.refl _ W).alloc (Nat.le_refl _) _, by rw [h.2]; exact size_al _ _⟩))
  have hget : ∀ i, i < (linesOf t).length → (linesOf t)[i]! = (linesB t)[i]! := fun i hi => drop_get hi
  have hmx : ∀ x ∈ linesOf t, x.size ≤ 8192 := fun x hx => Nat.le_trans (lines_of_size hx) hs
  have hMl : M ≤ 8193 := by have := lines_len_le t; omega
  have HLast := Lib.hid (fun (W : World) (B : Nat) (h : LnAt B (linesB t) W) => (show W.cell? ⟨B, m, none⟩ = some (.string .empty) by rw [← hlast]; exact h m (by omega)))
  have HX := Lib.hid (fun (W : World) (B i : Nat) (h : LnAt B (linesB t) W) (hi : i < m) => (show W.cell? ⟨B, i, none⟩ = some (.string (linesOf t)[i]!) by rw [hget i (by omega)]; exact h i (by omega)))
  obtain ⟨L, hL⟩ : ∃ L, linesOf t = L := ⟨_, rfl⟩
  rw [hL] at hsc hall hmx HX hN
  rw [hN] at hsc
  have HSc := Lib.hid hsc
  have HP := Lib.hid (fun (W : World) (j : Nat) (hj : j < m) (hb : Below w.heap.size w W) => (Parse_any L[j]! W (by have := hmx L[j]! (by rw [getElem!_pos L j (by omega)]; exact List.getElem_mem _); omega) (he.below hb)).mono fun e W2 h => (show e = .returned (.tuple #[.agg #[.string (parseC L[j]!).1.verb, .string (parseC L[j]!).1.call, .int .i64 (parseC L[j]!).1.n, .string (parseC L[j]!).1.fix], .int .i64 0]) ∧ Below W.heap.size W W2 from ⟨by rw [h.1, hall j (by omega)]; rfl, h.2⟩))
  have HPc := Lib.hid (fun (j : Nat) (hj : j < m) => (show cmE (pcs L)[j]! = cmE (parseC L[j]!).1 by rw [getElem!_pos (pcs L) j (by rw [pcs_len]; omega), getElem!_pos L j (by omega)]; unfold pcs; rw [List.getElem_map]))
  have hwm : IntKind.i64.wrap ((M : Int) - 1) = (m : Int) := by rw [IntWalk.i64_in _ (by omega)]; omega
  have hm0 : (0 : Int) ≤ (m : Int) := by omega
  have hm1 : (m : Int) < (M : Int) := by omega
  have hm2 : (m : Int) ≤ (M : Int) := by omega
  have hmM2 : m < M := by omega
  have b1 : decide ((8192 : Int) < (t.size : Int)) = false := decide_eq_false (by omega)
  clear hsc hM hmM hlast hN hall he hget hmx hL 
  go_enter Tryd.func4, Tryd.ntmps4
  go_wp2_with (first
    | (go_at_call 9; go_loud (refine HSc.out.mono ?_; rintro e w1 ⟨V, cv, rfl, hSl, hb1⟩; have HSl := Lib.hid hSl; clear hSl; have HB1 := Lib.hid hb1))
    | (go_at_call 7; go_loud (refine (HF.out _ (by exact hb1)).mono ?_; rintro e w2 ⟨rfl, hb2⟩; have HB2 := Lib.hid (bstep hb1 hb2)))
    | (go_at_call 10; go_loud (refine (HSp.out _ (by exact HB2.out)).mono ?_; rintro e w3 ⟨rfl, hln, hb3, hz3⟩; have HLn := Lib.hid hln; have dl := HLast.out _ _ hln; have HB3 := Lib.hid (bstep HB2.out hb3); have HZ3 := Lib.hid hz3; clear hln hz3)))
  go_loopw [45] (fun i wr => ∃ j : Nat, j ≤ m ∧ i = .int .i64 (j : Int) ∧ Hid (Below w3.heap.size w3 wr)) (fun i _ => m - (intOf i).toNat)
  case atStart => exact ⟨0, by omega, rfl, Lib.hid (Below.refl _ _)⟩
  case round =>
    obtain ⟨j, hj, rfl, HB⟩ := hrel
    have hzr : w3.heap.size ≤ wr.heap.size := HB.out.size
    have hz3 := HZ3.out
    have HBW : Hid (Below w.heap.size w wr) := Lib.hid (bstep HB3.out HB.out)
    by_cases hlt : j < m
    · have d0 : wr.cell? ⟨w2.heap.size, j, none⟩ = some (.string L[j]!) := HX.out wr w2.heap.size j (HLn.out.below HB.out (by omega)) (by omega)
      have HPj := Lib.hid (HP.out wr j hlt HBW.out)
      have l1 : (j : Int) < (m : Int) := by omega
      have l0 : (0 : Int) ≤ (j : Int) := by omega
      obtain ⟨bb, off, rfl, hbb, hr⟩ := HSl.out (by omega)
      have hr2 : w1.rangeAt bb (off + j * 4) (cmE (parseC L[j]!).1) := by rw [← HPc.out j hlt]; exact hr j hlt
      clear hr
      generalize L[j]! = x at *
      obtain ⟨c, hc⟩ : ∃ c, (parseC x).1 = c := ⟨_, rfl⟩
      rw [hc] at hr2 HPj
      clear hc
      have hcs : ∀ q v, (cmE c)[q]? = some v → wr.cell? ⟨bb, off + j * 4 + q, none⟩ = some v := fun q v hv => ((hb2.trans ((hb3.trans (HB.out.mono hb3.size)).mono hb2.size)).cell (p := ⟨bb, off + j * 4 + q, none⟩) hbb).trans (hr2 q v hv)
      have HQ := Lib.hid (fun W => (run_eqC c c W).trans (by rw [eqC_refl]))
      have heq := HQ.out
      obtain ⟨xv, xc, xn, xf⟩ := c
      simp only [cmV] at heq
      have e0 : wr.cell? ⟨bb, off + j * 4, none⟩ = some (.string xv) := hcs 0 _ rfl
      have e1 : wr.cell? ⟨bb, off + j * 4 + 1, none⟩ = some (.string xc) := hcs 1 _ rfl
      have e2 : wr.cell? ⟨bb, off + j * 4 + 2, none⟩ = some (.int .i64 xn) := hcs 2 _ rfl
      have e3 : wr.cell? ⟨bb, off + j * 4 + 3, none⟩ = some (.string xf) := hcs 3 _ rfl
      have hbw : bb < wr.heap.size := by have := hb2.size; omega
      clear hcs hr2
      have bge : decide ((m : Int) ≤ (j : Int)) = false := decide_eq_false (by omega)
      go_wp2_with (go_at_call 6; go_loud (refine HPj.out.mono ?_; rintro e w6 ⟨rfl, hb6⟩))
      have z6 := hb6.size
      have HB6 := Lib.hid (HB.out.trans (hb6.mono hzr))
      have g0 : w6.cell? ⟨bb, off + j * 4, none⟩ = some (.string xv) := (hb6.cell (p := ⟨bb, off + j * 4, none⟩) hbw).trans e0
      have g1 : w6.cell? ⟨bb, off + j * 4 + 1, none⟩ = some (.string xc) := (hb6.cell (p := ⟨bb, off + j * 4 + 1, none⟩) hbw).trans e1
      have g2 : w6.cell? ⟨bb, off + j * 4 + 2, none⟩ = some (.int .i64 xn) := (hb6.cell (p := ⟨bb, off + j * 4 + 2, none⟩) hbw).trans e2
      have g3 : w6.cell? ⟨bb, off + j * 4 + 3, none⟩ = some (.string xf) := (hb6.cell (p := ⟨bb, off + j * 4 + 3, none⟩) hbw).trans e3
      have y1 : bb < w6.heap.size := by omega
      have y2 : (bb != w6.heap.size) = true := by simp; omega
      go_quiet (fail)
      go_wp2_with fail
      go_roundw
      case rel => exact ⟨j + 1, by omega, by go_num, Lib.hid (below_drewN (HB6.out.alloc (by omega) _) _)⟩
      case measure => simp [intOf]; omega
    · obtain rfl : m = j := by omega
      go_wp2_with fail
      go_ret
      exact ⟨rfl, HBW.out⟩

set_option maxRecDepth 100000 in
set_option maxHeartbeats 8000000 in
theorem scripts_ok1 (t : ByteArray) (w : World) (m M : Nat) (hs : t.size ≤ 8192) (he : Env w) (hM : (linesB t).length = M) (hmM : M = m + 1) (hlast : (linesB t)[m]! ≠ .empty) (hN : (linesOf t).length = M) (hall : ∀ i, i < (linesOf t).length → (parseC (linesOf t)[i]!).2 = 0) :
    Calls Tryd.prog 4 #[.string t] w fun e w' => e = .returned (.bool true) ∧ Below w.heap.size w w' := by
  have hsc := Script_yes t w hs he hall
  unfold ScOk at hsc
  have HF := Lib.hid (fun (W : World) (hb : Below w.heap.size w W) => fact_any W (he.below hb))
  have HSp := Lib.hid (fun (W : World) (hb : Below w.heap.size w W) => (Split_any t nl W rfl (by omega) (he.below hb)).mono fun e W2 h => (show e = .returned (.slice (some ⟨W.heap.size, 0, none⟩) M M) ∧ LnAt W.heap.size (linesB t) W2 ∧ Below W.heap.size W W2 ∧ W2.heap.size = W.heap.size + 1 from ⟨by
    have h1 := h.1
    have e1 : (splitB nl 0 (countB t nl) t).length = M := hM
    rw [e1] at h1
    exact h1, by rw [h.2]; exact LnAt.start _ _, by rw [h.2]; exact (Below.refl _ W).alloc (Nat.le_refl _) _, by rw [h.2]; exact size_al _ _⟩))
  have hget : ∀ i, i < (linesOf t).length → (linesOf t)[i]! = (linesB t)[i]! := fun i hi => drop_get hi
  have hmx : ∀ x ∈ linesOf t, x.size ≤ 8192 := fun x hx => Nat.le_trans (lines_of_size hx) hs
  have hMl : M ≤ 8193 := by have := lines_len_le t; omega
  obtain ⟨z, hz⟩ : ∃ z, (linesB t)[m]! = z := ⟨_, rfl⟩
  rw [hz] at hlast
  have HLast := Lib.hid (fun (W : World) (B : Nat) (h : LnAt B (linesB t) W) => (show W.cell? ⟨B, m, none⟩ = some (.string z) by rw [← hz]; exact h m (by omega)))
  have zne : z.toList.isEmpty = false := by rw [ByteArray.toList_eq]; exact not_empty hlast
  have HX := Lib.hid (fun (W : World) (B i : Nat) (h : LnAt B (linesB t) W) (hi : i < M) => (show W.cell? ⟨B, i, none⟩ = some (.string (linesOf t)[i]!) by rw [hget i (by omega)]; exact h i (by omega)))
  obtain ⟨L, hL⟩ : ∃ L, linesOf t = L := ⟨_, rfl⟩
  rw [hL] at hsc hall hmx HX hN
  rw [hN] at hsc
  have HSc := Lib.hid hsc
  have HP := Lib.hid (fun (W : World) (j : Nat) (hj : j < M) (hb : Below w.heap.size w W) => (Parse_any L[j]! W (by have := hmx L[j]! (by rw [getElem!_pos L j (by omega)]; exact List.getElem_mem _); omega) (he.below hb)).mono fun e W2 h => (show e = .returned (.tuple #[.agg #[.string (parseC L[j]!).1.verb, .string (parseC L[j]!).1.call, .int .i64 (parseC L[j]!).1.n, .string (parseC L[j]!).1.fix], .int .i64 0]) ∧ Below W.heap.size W W2 from ⟨by rw [h.1, hall j (by omega)]; rfl, h.2⟩))
  have HPc := Lib.hid (fun (j : Nat) (hj : j < M) => (show cmE (pcs L)[j]! = cmE (parseC L[j]!).1 by rw [getElem!_pos (pcs L) j (by rw [pcs_len]; omega), getElem!_pos L j (by omega)]; unfold pcs; rw [List.getElem_map]))
  have hwm : IntKind.i64.wrap ((M : Int) - 1) = (m : Int) := by rw [IntWalk.i64_in _ (by omega)]; omega
  have hm0 : (0 : Int) ≤ (m : Int) := by omega
  have hm1 : (m : Int) < (M : Int) := by omega
  have hm2 : (m : Int) ≤ (M : Int) := by omega
  have hmM2 : m < M := by omega
  have b1 : decide ((8192 : Int) < (t.size : Int)) = false := decide_eq_false (by omega)
  clear hsc hM hmM hlast hN hall he hget hmx hL hz 
  go_enter Tryd.func4, Tryd.ntmps4
  go_wp2_with (first
    | (go_at_call 9; go_loud (refine HSc.out.mono ?_; rintro e w1 ⟨V, cv, rfl, hSl, hb1⟩; have HSl := Lib.hid hSl; clear hSl; have HB1 := Lib.hid hb1))
    | (go_at_call 7; go_loud (refine (HF.out _ (by exact hb1)).mono ?_; rintro e w2 ⟨rfl, hb2⟩; have HB2 := Lib.hid (bstep hb1 hb2)))
    | (go_at_call 10; go_loud (refine (HSp.out _ (by exact HB2.out)).mono ?_; rintro e w3 ⟨rfl, hln, hb3, hz3⟩; have HLn := Lib.hid hln; have dl := HLast.out _ _ hln; have HB3 := Lib.hid (bstep HB2.out hb3); have HZ3 := Lib.hid hz3; clear hln hz3)))
  go_loopw [45] (fun i wr => ∃ j : Nat, j ≤ M ∧ i = .int .i64 (j : Int) ∧ Hid (Below w3.heap.size w3 wr)) (fun i _ => M - (intOf i).toNat)
  case atStart => exact ⟨0, by omega, rfl, Lib.hid (Below.refl _ _)⟩
  case round =>
    obtain ⟨j, hj, rfl, HB⟩ := hrel
    have hzr : w3.heap.size ≤ wr.heap.size := HB.out.size
    have hz3 := HZ3.out
    have HBW : Hid (Below w.heap.size w wr) := Lib.hid (bstep HB3.out HB.out)
    by_cases hlt : j < M
    · have d0 : wr.cell? ⟨w2.heap.size, j, none⟩ = some (.string L[j]!) := HX.out wr w2.heap.size j (HLn.out.below HB.out (by omega)) (by omega)
      have HPj := Lib.hid (HP.out wr j hlt HBW.out)
      have l1 : (j : Int) < (M : Int) := by omega
      have l0 : (0 : Int) ≤ (j : Int) := by omega
      obtain ⟨bb, off, rfl, hbb, hr⟩ := HSl.out (by omega)
      have hr2 : w1.rangeAt bb (off + j * 4) (cmE (parseC L[j]!).1) := by rw [← HPc.out j hlt]; exact hr j hlt
      clear hr
      generalize L[j]! = x at *
      obtain ⟨c, hc⟩ : ∃ c, (parseC x).1 = c := ⟨_, rfl⟩
      rw [hc] at hr2 HPj
      clear hc
      have hcs : ∀ q v, (cmE c)[q]? = some v → wr.cell? ⟨bb, off + j * 4 + q, none⟩ = some v := fun q v hv => ((hb2.trans ((hb3.trans (HB.out.mono hb3.size)).mono hb2.size)).cell (p := ⟨bb, off + j * 4 + q, none⟩) hbb).trans (hr2 q v hv)
      have HQ := Lib.hid (fun W => (run_eqC c c W).trans (by rw [eqC_refl]))
      have heq := HQ.out
      obtain ⟨xv, xc, xn, xf⟩ := c
      simp only [cmV] at heq
      have e0 : wr.cell? ⟨bb, off + j * 4, none⟩ = some (.string xv) := hcs 0 _ rfl
      have e1 : wr.cell? ⟨bb, off + j * 4 + 1, none⟩ = some (.string xc) := hcs 1 _ rfl
      have e2 : wr.cell? ⟨bb, off + j * 4 + 2, none⟩ = some (.int .i64 xn) := hcs 2 _ rfl
      have e3 : wr.cell? ⟨bb, off + j * 4 + 3, none⟩ = some (.string xf) := hcs 3 _ rfl
      have hbw : bb < wr.heap.size := by have := hb2.size; omega
      clear hcs hr2
      have bge : decide ((M : Int) ≤ (j : Int)) = false := decide_eq_false (by omega)
      go_wp2_with (go_at_call 6; go_loud (refine HPj.out.mono ?_; rintro e w6 ⟨rfl, hb6⟩))
      have z6 := hb6.size
      have HB6 := Lib.hid (HB.out.trans (hb6.mono hzr))
      have g0 : w6.cell? ⟨bb, off + j * 4, none⟩ = some (.string xv) := (hb6.cell (p := ⟨bb, off + j * 4, none⟩) hbw).trans e0
      have g1 : w6.cell? ⟨bb, off + j * 4 + 1, none⟩ = some (.string xc) := (hb6.cell (p := ⟨bb, off + j * 4 + 1, none⟩) hbw).trans e1
      have g2 : w6.cell? ⟨bb, off + j * 4 + 2, none⟩ = some (.int .i64 xn) := (hb6.cell (p := ⟨bb, off + j * 4 + 2, none⟩) hbw).trans e2
      have g3 : w6.cell? ⟨bb, off + j * 4 + 3, none⟩ = some (.string xf) := (hb6.cell (p := ⟨bb, off + j * 4 + 3, none⟩) hbw).trans e3
      have y1 : bb < w6.heap.size := by omega
      have y2 : (bb != w6.heap.size) = true := by simp; omega
      go_quiet (fail)
      go_wp2_with fail
      go_roundw
      case rel => exact ⟨j + 1, by omega, by go_num, Lib.hid (below_drewN (HB6.out.alloc (by omega) _) _)⟩
      case measure => simp [intOf]; omega
    · obtain rfl : M = j := by omega
      go_wp2_with fail
      go_ret
      exact ⟨rfl, HBW.out⟩

set_option maxRecDepth 100000 in
set_option maxHeartbeats 8000000 in
theorem scripts_err0 (t : ByteArray) (w : World) (m M : Nat) (hs : t.size ≤ 8192) (he : Env w) (hM : (linesB t).length = M) (hmM : M = m + 1) (hlast : (linesB t)[m]! = .empty) (hN : (linesOf t).length = m) (k : Nat) (q : Int) (hkl : k < (linesOf t).length) (hq : (parseC (linesOf t)[k]!).2 = q) (hq0 : q ≠ 0) (hall : ∀ i, i < k → (parseC (linesOf t)[i]!).2 = 0) :
    Calls Tryd.prog 4 #[.string t] w fun e w' => e = .returned (.bool true) ∧ Below w.heap.size w w' := by
  have hne : t ≠ .empty := fun h => by rw [h, lines_empty] at hkl; exact absurd hkl (Nat.not_lt_zero _)
  have hsc := Script_err t w hs hne he k q hkl hq hq0 hall
  have HF := Lib.hid (fun (W : World) (hb : Below w.heap.size w W) => fact_any W (he.below hb))
  have HSp := Lib.hid (fun (W : World) (hb : Below w.heap.size w W) => (Split_any t nl W rfl (by omega) (he.below hb)).mono fun e W2 h => (show e = .returned (.slice (some ⟨W.heap.size, 0, none⟩) M M) ∧ LnAt W.heap.size (linesB t) W2 ∧ Below W.heap.size W W2 ∧ W2.heap.size = W.heap.size + 1 from ⟨by
    have h1 := h.1
    have e1 : (splitB nl 0 (countB t nl) t).length = M := hM
    rw [e1] at h1
    exact h1, by rw [h.2]; exact LnAt.start _ _, by rw [h.2]; exact (Below.refl _ W).alloc (Nat.le_refl _) _, by rw [h.2]; exact size_al _ _⟩))
  have hget : ∀ i, i < (linesOf t).length → (linesOf t)[i]! = (linesB t)[i]! := fun i hi => drop_get hi
  have hmx : ∀ x ∈ linesOf t, x.size ≤ 8192 := fun x hx => Nat.le_trans (lines_of_size hx) hs
  have hMl : M ≤ 8193 := by have := lines_len_le t; omega
  have HLast := Lib.hid (fun (W : World) (B : Nat) (h : LnAt B (linesB t) W) => (show W.cell? ⟨B, m, none⟩ = some (.string .empty) by rw [← hlast]; exact h m (by omega)))
  have HX := Lib.hid (fun (W : World) (B i : Nat) (h : LnAt B (linesB t) W) (hi : i < m) => (show W.cell? ⟨B, i, none⟩ = some (.string (linesOf t)[i]!) by rw [hget i (by omega)]; exact h i (by omega)))
  obtain ⟨L, hL⟩ : ∃ L, linesOf t = L := ⟨_, rfl⟩
  rw [hL] at hall hmx HX hN hkl hq
  rw [hN] at hkl
  have HSc := Lib.hid hsc
  have HP := Lib.hid (fun (W : World) (j : Nat) (hj : j < k) (hb : Below w.heap.size w W) => (Parse_any L[j]! W (by have := hmx L[j]! (by rw [getElem!_pos L j (by omega)]; exact List.getElem_mem _); omega) (he.below hb)).mono fun e W2 h => (show e = .returned (.tuple #[.agg #[.string (parseC L[j]!).1.verb, .string (parseC L[j]!).1.call, .int .i64 (parseC L[j]!).1.n, .string (parseC L[j]!).1.fix], .int .i64 0]) ∧ Below W.heap.size W W2 from ⟨by rw [h.1, hall j (by omega)]; rfl, h.2⟩))
  have HPk := Lib.hid (fun (W : World) (hb : Below w.heap.size w W) => (Parse_any L[k]! W (by have := hmx L[k]! (by rw [getElem!_pos L k (by omega)]; exact List.getElem_mem _); omega) (he.below hb)).mono fun e W2 h => (show e = .returned (.tuple #[.agg #[.string (parseC L[k]!).1.verb, .string (parseC L[k]!).1.call, .int .i64 (parseC L[k]!).1.n, .string (parseC L[k]!).1.fix], .int .i64 q]) ∧ Below W.heap.size W W2 from ⟨by rw [h.1, hq]; rfl, h.2⟩))
  have q1 : (q != 0) = true := by simpa using hq0
  have q2 : (q == 0) = false := by simpa using hq0
  have q3 : decide (q = 0) = false := decide_eq_false hq0
  have hwm : IntKind.i64.wrap ((M : Int) - 1) = (m : Int) := by rw [IntWalk.i64_in _ (by omega)]; omega
  have hm0 : (0 : Int) ≤ (m : Int) := by omega
  have hm1 : (m : Int) < (M : Int) := by omega
  have hm2 : (m : Int) ≤ (M : Int) := by omega
  have hmM2 : m < M := by omega
  have b1 : decide ((8192 : Int) < (t.size : Int)) = false := decide_eq_false (by omega)
  clear hsc hM hmM hlast hN hall he hget hmx hL hq hq0 hne
  go_enter Tryd.func4, Tryd.ntmps4
  go_wp2_with (first
    | (go_at_call 9; go_loud (refine HSc.out.mono ?_; rintro e w1 ⟨rfl, hb1⟩; have HB1 := Lib.hid hb1))
    | (go_at_call 7; go_loud (refine (HF.out _ (by exact hb1)).mono ?_; rintro e w2 ⟨rfl, hb2⟩; have HB2 := Lib.hid (bstep hb1 hb2)))
    | (go_at_call 10; go_loud (refine (HSp.out _ (by exact HB2.out)).mono ?_; rintro e w3 ⟨rfl, hln, hb3, hz3⟩; have HLn := Lib.hid hln; have dl := HLast.out _ _ hln; have HB3 := Lib.hid (bstep HB2.out hb3); have HZ3 := Lib.hid hz3; clear hln hz3)))
  go_loopw [45] (fun i wr => ∃ j : Nat, j ≤ k ∧ i = .int .i64 (j : Int) ∧ Hid (Below w3.heap.size w3 wr)) (fun i _ => k - (intOf i).toNat)
  case atStart => exact ⟨0, by omega, rfl, Lib.hid (Below.refl _ _)⟩
  case round =>
    obtain ⟨j, hj, rfl, HB⟩ := hrel
    have hzr : w3.heap.size ≤ wr.heap.size := HB.out.size
    have hz3 := HZ3.out
    have HBW : Hid (Below w.heap.size w wr) := Lib.hid (bstep HB3.out HB.out)
    by_cases hlt : j < k
    · have d0 : wr.cell? ⟨w2.heap.size, j, none⟩ = some (.string L[j]!) := HX.out wr w2.heap.size j (HLn.out.below HB.out (by omega)) (by omega)
      have HPj := Lib.hid (HP.out wr j hlt HBW.out)
      have l1 : (j : Int) < (m : Int) := by omega
      have l0 : (0 : Int) ≤ (j : Int) := by omega
      generalize L[j]! = x at *
      obtain ⟨⟨xv, xc, xn, xf⟩, hc⟩ : ∃ c, (parseC x).1 = c := ⟨_, rfl⟩
      rw [hc] at HPj
      clear hc
      go_wp2_with (go_at_call 6; go_loud (refine HPj.out.mono ?_; rintro e w6 ⟨rfl, hb6⟩))
      have z6 := hb6.size
      have HB6 := Lib.hid (HB.out.trans (hb6.mono hzr))
      obtain ⟨w7, hw7⟩ : ∃ w7, w6.alloc (.cells #[.string xv, .string xc, .int .i64 xn, .string xf] 23) = w7 := ⟨_, rfl⟩
      have HB7 : Hid (Below w3.heap.size w3 w7) := Lib.hid (by rw [← hw7]; exact HB6.out.alloc (by omega) _)
      rw [hw7]
      clear hw7
      refine wp_region_quiet_below (by kernel_rfl) (by kernel_rfl) ?_
      repeat (go_big_quiet_step (fail))
      refine wpQuiet_nil ?_
      intro _ hw'
      obtain ⟨⟨dq, osq⟩, hw''⟩ := hw'
      subst hw''
      have HB8 := Lib.hid (HB7.out.trans ((below_regrown w7 dq osq).mono HB7.out.size))
      go_wp2_with fail
      go_roundw
      case rel => exact ⟨j + 1, by omega, by go_num, HB8⟩
      case measure => simp [intOf]; omega
    · obtain rfl : k = j := by omega
      have d0 : wr.cell? ⟨w2.heap.size, k, none⟩ = some (.string L[k]!) := HX.out wr w2.heap.size k (HLn.out.below HB.out (by omega)) (by omega)
      have HPj := Lib.hid (HPk.out wr HBW.out)
      have l1 : (k : Int) < (m : Int) := by omega
      have l0 : (0 : Int) ≤ (k : Int) := by omega
      generalize L[k]! = x at *
      obtain ⟨⟨xv, xc, xn, xf⟩, hc⟩ : ∃ c, (parseC x).1 = c := ⟨_, rfl⟩
      rw [hc] at HPj
      clear hc
      go_wp2_with (go_at_call 6; go_loud (refine HPj.out.mono ?_; rintro e w6 ⟨rfl, hb6⟩; have HB6 := Lib.hid (bstep HBW.out hb6)))
      go_ret
      exact ⟨rfl, HB6.out.alloc HB6.out.size _⟩

set_option maxRecDepth 100000 in
set_option maxHeartbeats 8000000 in
theorem scripts_err1 (t : ByteArray) (w : World) (m M : Nat) (hs : t.size ≤ 8192) (he : Env w) (hM : (linesB t).length = M) (hmM : M = m + 1) (hlast : (linesB t)[m]! ≠ .empty) (hN : (linesOf t).length = M) (k : Nat) (q : Int) (hkl : k < (linesOf t).length) (hq : (parseC (linesOf t)[k]!).2 = q) (hq0 : q ≠ 0) (hall : ∀ i, i < k → (parseC (linesOf t)[i]!).2 = 0) :
    Calls Tryd.prog 4 #[.string t] w fun e w' => e = .returned (.bool true) ∧ Below w.heap.size w w' := by
  have hne : t ≠ .empty := fun h => by rw [h, lines_empty] at hkl; exact absurd hkl (Nat.not_lt_zero _)
  have hsc := Script_err t w hs hne he k q hkl hq hq0 hall
  have HF := Lib.hid (fun (W : World) (hb : Below w.heap.size w W) => fact_any W (he.below hb))
  have HSp := Lib.hid (fun (W : World) (hb : Below w.heap.size w W) => (Split_any t nl W rfl (by omega) (he.below hb)).mono fun e W2 h => (show e = .returned (.slice (some ⟨W.heap.size, 0, none⟩) M M) ∧ LnAt W.heap.size (linesB t) W2 ∧ Below W.heap.size W W2 ∧ W2.heap.size = W.heap.size + 1 from ⟨by
    have h1 := h.1
    have e1 : (splitB nl 0 (countB t nl) t).length = M := hM
    rw [e1] at h1
    exact h1, by rw [h.2]; exact LnAt.start _ _, by rw [h.2]; exact (Below.refl _ W).alloc (Nat.le_refl _) _, by rw [h.2]; exact size_al _ _⟩))
  have hget : ∀ i, i < (linesOf t).length → (linesOf t)[i]! = (linesB t)[i]! := fun i hi => drop_get hi
  have hmx : ∀ x ∈ linesOf t, x.size ≤ 8192 := fun x hx => Nat.le_trans (lines_of_size hx) hs
  have hMl : M ≤ 8193 := by have := lines_len_le t; omega
  obtain ⟨z, hz⟩ : ∃ z, (linesB t)[m]! = z := ⟨_, rfl⟩
  rw [hz] at hlast
  have HLast := Lib.hid (fun (W : World) (B : Nat) (h : LnAt B (linesB t) W) => (show W.cell? ⟨B, m, none⟩ = some (.string z) by rw [← hz]; exact h m (by omega)))
  have zne : z.toList.isEmpty = false := by rw [ByteArray.toList_eq]; exact not_empty hlast
  have HX := Lib.hid (fun (W : World) (B i : Nat) (h : LnAt B (linesB t) W) (hi : i < M) => (show W.cell? ⟨B, i, none⟩ = some (.string (linesOf t)[i]!) by rw [hget i (by omega)]; exact h i (by omega)))
  obtain ⟨L, hL⟩ : ∃ L, linesOf t = L := ⟨_, rfl⟩
  rw [hL] at hall hmx HX hN hkl hq
  rw [hN] at hkl
  have HSc := Lib.hid hsc
  have HP := Lib.hid (fun (W : World) (j : Nat) (hj : j < k) (hb : Below w.heap.size w W) => (Parse_any L[j]! W (by have := hmx L[j]! (by rw [getElem!_pos L j (by omega)]; exact List.getElem_mem _); omega) (he.below hb)).mono fun e W2 h => (show e = .returned (.tuple #[.agg #[.string (parseC L[j]!).1.verb, .string (parseC L[j]!).1.call, .int .i64 (parseC L[j]!).1.n, .string (parseC L[j]!).1.fix], .int .i64 0]) ∧ Below W.heap.size W W2 from ⟨by rw [h.1, hall j (by omega)]; rfl, h.2⟩))
  have HPk := Lib.hid (fun (W : World) (hb : Below w.heap.size w W) => (Parse_any L[k]! W (by have := hmx L[k]! (by rw [getElem!_pos L k (by omega)]; exact List.getElem_mem _); omega) (he.below hb)).mono fun e W2 h => (show e = .returned (.tuple #[.agg #[.string (parseC L[k]!).1.verb, .string (parseC L[k]!).1.call, .int .i64 (parseC L[k]!).1.n, .string (parseC L[k]!).1.fix], .int .i64 q]) ∧ Below W.heap.size W W2 from ⟨by rw [h.1, hq]; rfl, h.2⟩))
  have q1 : (q != 0) = true := by simpa using hq0
  have q2 : (q == 0) = false := by simpa using hq0
  have q3 : decide (q = 0) = false := decide_eq_false hq0
  have hwm : IntKind.i64.wrap ((M : Int) - 1) = (m : Int) := by rw [IntWalk.i64_in _ (by omega)]; omega
  have hm0 : (0 : Int) ≤ (m : Int) := by omega
  have hm1 : (m : Int) < (M : Int) := by omega
  have hm2 : (m : Int) ≤ (M : Int) := by omega
  have hmM2 : m < M := by omega
  have b1 : decide ((8192 : Int) < (t.size : Int)) = false := decide_eq_false (by omega)
  clear hsc hM hmM hlast hN hall he hget hmx hL hz hq hq0 hne
  go_enter Tryd.func4, Tryd.ntmps4
  go_wp2_with (first
    | (go_at_call 9; go_loud (refine HSc.out.mono ?_; rintro e w1 ⟨rfl, hb1⟩; have HB1 := Lib.hid hb1))
    | (go_at_call 7; go_loud (refine (HF.out _ (by exact hb1)).mono ?_; rintro e w2 ⟨rfl, hb2⟩; have HB2 := Lib.hid (bstep hb1 hb2)))
    | (go_at_call 10; go_loud (refine (HSp.out _ (by exact HB2.out)).mono ?_; rintro e w3 ⟨rfl, hln, hb3, hz3⟩; have HLn := Lib.hid hln; have dl := HLast.out _ _ hln; have HB3 := Lib.hid (bstep HB2.out hb3); have HZ3 := Lib.hid hz3; clear hln hz3)))
  go_loopw [45] (fun i wr => ∃ j : Nat, j ≤ k ∧ i = .int .i64 (j : Int) ∧ Hid (Below w3.heap.size w3 wr)) (fun i _ => k - (intOf i).toNat)
  case atStart => exact ⟨0, by omega, rfl, Lib.hid (Below.refl _ _)⟩
  case round =>
    obtain ⟨j, hj, rfl, HB⟩ := hrel
    have hzr : w3.heap.size ≤ wr.heap.size := HB.out.size
    have hz3 := HZ3.out
    have HBW : Hid (Below w.heap.size w wr) := Lib.hid (bstep HB3.out HB.out)
    by_cases hlt : j < k
    · have d0 : wr.cell? ⟨w2.heap.size, j, none⟩ = some (.string L[j]!) := HX.out wr w2.heap.size j (HLn.out.below HB.out (by omega)) (by omega)
      have HPj := Lib.hid (HP.out wr j hlt HBW.out)
      have l1 : (j : Int) < (M : Int) := by omega
      have l0 : (0 : Int) ≤ (j : Int) := by omega
      generalize L[j]! = x at *
      obtain ⟨⟨xv, xc, xn, xf⟩, hc⟩ : ∃ c, (parseC x).1 = c := ⟨_, rfl⟩
      rw [hc] at HPj
      clear hc
      go_wp2_with (go_at_call 6; go_loud (refine HPj.out.mono ?_; rintro e w6 ⟨rfl, hb6⟩))
      have z6 := hb6.size
      have HB6 := Lib.hid (HB.out.trans (hb6.mono hzr))
      obtain ⟨w7, hw7⟩ : ∃ w7, w6.alloc (.cells #[.string xv, .string xc, .int .i64 xn, .string xf] 23) = w7 := ⟨_, rfl⟩
      have HB7 : Hid (Below w3.heap.size w3 w7) := Lib.hid (by rw [← hw7]; exact HB6.out.alloc (by omega) _)
      rw [hw7]
      clear hw7
      refine wp_region_quiet_below (by kernel_rfl) (by kernel_rfl) ?_
      repeat (go_big_quiet_step (fail))
      refine wpQuiet_nil ?_
      intro _ hw'
      obtain ⟨⟨dq, osq⟩, hw''⟩ := hw'
      subst hw''
      have HB8 := Lib.hid (HB7.out.trans ((below_regrown w7 dq osq).mono HB7.out.size))
      go_wp2_with fail
      go_roundw
      case rel => exact ⟨j + 1, by omega, by go_num, HB8⟩
      case measure => simp [intOf]; omega
    · obtain rfl : k = j := by omega
      have d0 : wr.cell? ⟨w2.heap.size, k, none⟩ = some (.string L[k]!) := HX.out wr w2.heap.size k (HLn.out.below HB.out (by omega)) (by omega)
      have HPj := Lib.hid (HPk.out wr HBW.out)
      have l1 : (k : Int) < (M : Int) := by omega
      have l0 : (0 : Int) ≤ (k : Int) := by omega
      generalize L[k]! = x at *
      obtain ⟨⟨xv, xc, xn, xf⟩, hc⟩ : ∃ c, (parseC x).1 = c := ⟨_, rfl⟩
      rw [hc] at HPj
      clear hc
      go_wp2_with (go_at_call 6; go_loud (refine HPj.out.mono ?_; rintro e w6 ⟨rfl, hb6⟩; have HB6 := Lib.hid (bstep HBW.out hb6)))
      go_ret
      exact ⟨rfl, HB6.out.alloc HB6.out.size _⟩

/-- ConsoleScripts returns true. -/
theorem Scripts_walk (t : ByteArray) (w : World) (hm : t.size ≤ maxLen) (he : Env w) : Calls Tryd.prog 4 #[.string t] w fun e w' => e = .returned (.bool true) ∧ Below w.heap.size w w' := by
  by_cases hs : 8192 < t.size
  · exact scripts_large t w hs hm he
  have hs : t.size ≤ 8192 := by omega
  obtain ⟨m, hmm⟩ : ∃ m, (linesB t).length = m + 1 := ⟨countB t nl, lines_len t⟩
  rcases first_err (linesOf t) with hall | ⟨k, hk, hq, hall⟩
  · rcases drop_last hmm with ⟨h1, h2⟩ | ⟨h1, h2⟩
    · exact scripts_ok0 t w m (m + 1) hs he hmm rfl h1 h2 hall
    · exact scripts_ok1 t w m (m + 1) hs he hmm rfl h1 h2 hall
  · rcases drop_last hmm with ⟨h1, h2⟩ | ⟨h1, h2⟩
    · exact scripts_err0 t w m (m + 1) hs he hmm rfl h1 h2 k _ hk rfl hq hall
    · exact scripts_err1 t w m (m + 1) hs he hmm rfl h1 h2 k _ hk rfl hq hall
end Go.Proofs.YtdlifdmnfbjokaaDoor
