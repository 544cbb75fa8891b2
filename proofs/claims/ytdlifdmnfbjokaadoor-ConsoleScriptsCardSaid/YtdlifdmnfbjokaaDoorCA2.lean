/- Package console: Check. -/
import Derived.Test.YtdlifdmnfbjokaaDoorCA1
namespace Go.Proofs.YtdlifdmnfbjokaaDoor
open Go.RowKit

/-- A command as a value. -/
def cmV (c : Cm) : Value := .agg #[.string c.verb, .string c.call, .int .i64 c.n, .string c.fix]
theorem fix_num {v : Int} (h : fixV v = true) : numV v = false := by
  unfold fixV at h; unfold numV
  simp only [Bool.and_eq_true, decide_eq_true_eq] at h
  exact decide_eq_false (by omega)
theorem num_le {v : Int} (h : numV v = true) : v ≤ 2 := by
  unfold numV at h; simpa using h
/-- Behind the box of a command at the first new block. -/
def BxP (v c : ByteArray) (n : Int) (f : ByteArray) (w W : World) : Prop := Below (w.heap.size + 1) (w.alloc (.cells #[.string v, .string c, .int .i64 n, .string f] 23)) W
theorem bx_self (v c : ByteArray) (n : Int) (f : ByteArray) (w : World) : BxP v c n f w (w.alloc (.cells #[.string v, .string c, .int .i64 n, .string f] 23)) := by
  have h := Below.refl (w.heap.size + 1) (w.alloc (.cells #[.string v, .string c, .int .i64 n, .string f] 23))
  exact h
theorem BxP.below {v c : ByteArray} {n : Int} {f : ByteArray} {w W : World} (h : BxP v c n f w W) : Below w.heap.size w W :=
  ((Below.refl _ w).alloc (Nat.le_refl _) _).trans (h.mono (by omega))
theorem BxP.on {v c : ByteArray} {n : Int} {f : ByteArray} {w W W2 : World} (h : BxP v c n f w W) (h2 : Below W.heap.size W W2) : BxP v c n f w W2 := by
  refine Below.trans h (h2.mono ?_)
  have h3 := h.size
  simp only [World.alloc, Array.size_push] at h3
  exact h3
theorem not_empty {x : ByteArray} (h : x ≠ .empty) : x.data.toList.isEmpty = false := by
  cases x with | mk a =>
  cases a with | mk l =>
  cases l with
  | nil => exact absurd rfl h
  | cons b r => rfl
theorem BxP.lt {v c : ByteArray} {n : Int} {f : ByteArray} {w W : World} (h : BxP v c n f w W) : w.heap.size < W.heap.size := by
  have h3 := h.size
  simp only [World.alloc, Array.size_push] at h3
  exact h3
theorem BxP.cells {v c : ByteArray} {n : Int} {f : ByteArray} {w W : World} (h : BxP v c n f w W) :
    W.cell? ⟨w.heap.size, 1, none⟩ = some (.string c) ∧ W.cell? ⟨w.heap.size, 2, none⟩ = some (.int .i64 n) ∧ W.cell? ⟨w.heap.size, 3, none⟩ = some (.string f) ∧ w.heap.size < W.heap.size ∧ (w.heap.size != W.heap.size) = true := by
  refine ⟨?_, ?_, ?_, h.lt, by have := h.lt; simp; omega⟩
  · rw [h.cell (p := ⟨w.heap.size, 1, none⟩) (by show w.heap.size < w.heap.size + 1; omega), World.cell?_alloc_new]; rfl
  · rw [h.cell (p := ⟨w.heap.size, 2, none⟩) (by show w.heap.size < w.heap.size + 1; omega), World.cell?_alloc_new]; rfl
  · rw [h.cell (p := ⟨w.heap.size, 3, none⟩) (by show w.heap.size < w.heap.size + 1; omega), World.cell?_alloc_new]; rfl
def CkP (c : Cm) (w : World) : Ending → World → Prop := fun e w' => e = .returned (.int .i64 (chkC c)) ∧ Below w.heap.size w w'
set_option maxRecDepth 100000 in
set_option maxHeartbeats 4000000 in
theorem ck_v (verb call fix : ByteArray) (n : Int) (v : Int) (w : World) (hv : vIx verb = v) (_h1 : call.size ≤ maxLen) (_h2 : fix.size ≤ maxLen) (hn : v < 0) :
    Calls Tryd.prog 8 #[cmV ⟨verb, call, n, fix⟩] w (CkP ⟨verb, call, n, fix⟩ w) := by
  have HV := Lib.hid (fun (W : World) (hb : BxP verb call n fix w W) => (verb_any verb W).mono fun e W2 h => (show e = .returned (.int .i64 v) ∧ BxP verb call n fix w W2 ∧ _ from ⟨by rw [h.1, hv], hb.on h.2, (hb.on h.2).cells⟩))
  have HR : Hid (chkC ⟨verb, call, n, fix⟩ = 5) := Lib.hid (by unfold chkC; dsimp only; rw [hv, if_pos hn])
  have b0 : decide (v < 0) = true := decide_eq_true hn
  clear hn hv 
  unfold CkP cmV
  go_enter Tryd.func8, Tryd.ntmps8
  go_wp2_with (first | (go_at_call 11; go_loud (refine (HV.out _ (by exact bx_self _ _ _ _ w)).mono ?_; rintro e w1 ⟨rfl, hb1, c11, c12, c13, l11, l12⟩)) | (go_at_call 16; go_loud (first | (have _t := tokA; refine (HA.out _ (by exact hb1)).mono ?_; rintro e w2 ⟨rfl, hb2, c21, c22, c23, l21, l22⟩; clear tokA) | (refine (HB.out _ (by exact hb2)).mono ?_; rintro e w3 ⟨rfl, hb3, c31, c32, c33, l31, l32⟩))) | (go_at_call 14; go_loud (refine (HF.out _).mono ?_; rintro e w4 ⟨rfl, rfl⟩)) | (go_at_call 12; go_loud (refine (HM.out _).mono ?_; rintro e w5 ⟨rfl, rfl⟩)))
  go_ret
  exact ⟨by rw [HR.out]; rfl, by first | exact hb3.below | exact hb2.below | exact hb1.below | exact hb2.below.alloc (by omega) _⟩
set_option maxRecDepth 100000 in
set_option maxHeartbeats 4000000 in
theorem ck_a (verb call fix : ByteArray) (n : Int) (v : Int) (w : World) (hv : vIx verb = v) (h1 : call.size ≤ maxLen) (_h2 : fix.size ≤ maxLen) (hn : ¬ v < 0) (ha : nameB call = false) :
    Calls Tryd.prog 8 #[cmV ⟨verb, call, n, fix⟩] w (CkP ⟨verb, call, n, fix⟩ w) := by
  have HV := Lib.hid (fun (W : World) (hb : BxP verb call n fix w W) => (verb_any verb W).mono fun e W2 h => (show e = .returned (.int .i64 v) ∧ BxP verb call n fix w W2 ∧ _ from ⟨by rw [h.1, hv], hb.on h.2, (hb.on h.2).cells⟩))
  have tokA : True := trivial
  have HA := Lib.hid (fun (W : World) (hb : BxP verb call n fix w W) => (Name_any call W h1).mono fun e W2 h => (show e = .returned (.bool false) ∧ BxP verb call n fix w W2 ∧ _ from ⟨by rw [h.1, ha], hb.on h.2, (hb.on h.2).cells⟩))
  have HR : Hid (chkC ⟨verb, call, n, fix⟩ = 6) := Lib.hid (by unfold chkC; dsimp only; rw [hv, if_neg hn, if_pos (.inl ha)])
  have b0 : decide (v < 0) = false := decide_eq_false hn
  clear hn hv h1 ha
  unfold CkP cmV
  go_enter Tryd.func8, Tryd.ntmps8
  go_wp2_with (first | (go_at_call 11; go_loud (refine (HV.out _ (by exact bx_self _ _ _ _ w)).mono ?_; rintro e w1 ⟨rfl, hb1, c11, c12, c13, l11, l12⟩)) | (go_at_call 16; go_loud (first | (have _t := tokA; refine (HA.out _ (by exact hb1)).mono ?_; rintro e w2 ⟨rfl, hb2, c21, c22, c23, l21, l22⟩; clear tokA) | (refine (HB.out _ (by exact hb2)).mono ?_; rintro e w3 ⟨rfl, hb3, c31, c32, c33, l31, l32⟩))) | (go_at_call 14; go_loud (refine (HF.out _).mono ?_; rintro e w4 ⟨rfl, rfl⟩)) | (go_at_call 12; go_loud (refine (HM.out _).mono ?_; rintro e w5 ⟨rfl, rfl⟩)))
  go_ret
  exact ⟨by rw [HR.out]; rfl, by first | exact hb3.below | exact hb2.below | exact hb1.below | exact hb2.below.alloc (by omega) _⟩
set_option maxRecDepth 100000 in
set_option maxHeartbeats 4000000 in
theorem ck_b (verb call fix : ByteArray) (n : Int) (v : Int) (w : World) (hv : vIx verb = v) (h1 : call.size ≤ maxLen) (h2 : fix.size ≤ maxLen) (hn : ¬ v < 0) (ha : nameB call = true) (hf : fixV v = true) (hfx : nameB fix = false) :
    Calls Tryd.prog 8 #[cmV ⟨verb, call, n, fix⟩] w (CkP ⟨verb, call, n, fix⟩ w) := by
  have HV := Lib.hid (fun (W : World) (hb : BxP verb call n fix w W) => (verb_any verb W).mono fun e W2 h => (show e = .returned (.int .i64 v) ∧ BxP verb call n fix w W2 ∧ _ from ⟨by rw [h.1, hv], hb.on h.2, (hb.on h.2).cells⟩))
  have tokA : True := trivial
  have HA := Lib.hid (fun (W : World) (hb : BxP verb call n fix w W) => (Name_any call W h1).mono fun e W2 h => (show e = .returned (.bool true) ∧ BxP verb call n fix w W2 ∧ _ from ⟨by rw [h.1, ha], hb.on h.2, (hb.on h.2).cells⟩))
  have HB := Lib.hid (fun (W : World) (hb : BxP verb call n fix w W) => (Name_any fix W h2).mono fun e W2 h => (show e = .returned (.bool false) ∧ BxP verb call n fix w W2 ∧ _ from ⟨by rw [h.1, hfx], hb.on h.2, (hb.on h.2).cells⟩))
  have HF := Lib.hid (fun (W : World) => (fix_any v W).mono fun e W2 h => (show e = .returned (.bool true) ∧ W = W2 from ⟨by rw [h.1, hf], h.2⟩))
  have HR : Hid (chkC ⟨verb, call, n, fix⟩ = 6) := Lib.hid (by unfold chkC; dsimp only; rw [hv, if_neg hn, if_pos (.inr ⟨hf, hfx⟩)])
  have b0 : decide (v < 0) = false := decide_eq_false hn
  clear hn hv h1 h2 ha hf hfx
  unfold CkP cmV
  go_enter Tryd.func8, Tryd.ntmps8
  go_wp2_with (first | (go_at_call 11; go_loud (refine (HV.out _ (by exact bx_self _ _ _ _ w)).mono ?_; rintro e w1 ⟨rfl, hb1, c11, c12, c13, l11, l12⟩)) | (go_at_call 16; go_loud (first | (have _t := tokA; refine (HA.out _ (by exact hb1)).mono ?_; rintro e w2 ⟨rfl, hb2, c21, c22, c23, l21, l22⟩; clear tokA) | (refine (HB.out _ (by exact hb2)).mono ?_; rintro e w3 ⟨rfl, hb3, c31, c32, c33, l31, l32⟩))) | (go_at_call 14; go_loud (refine (HF.out _).mono ?_; rintro e w4 ⟨rfl, rfl⟩)) | (go_at_call 12; go_loud (refine (HM.out _).mono ?_; rintro e w5 ⟨rfl, rfl⟩)))
  go_ret
  exact ⟨by rw [HR.out]; rfl, by first | exact hb3.below | exact hb2.below | exact hb1.below | exact hb2.below.alloc (by omega) _⟩
set_option maxRecDepth 100000 in
set_option maxHeartbeats 4000000 in
theorem ck_f3 (verb call fix : ByteArray) (n : Int) (v : Int) (w : World) (hv : vIx verb = v) (h1 : call.size ≤ maxLen) (h2 : fix.size ≤ maxLen) (hn : ¬ v < 0) (ha : nameB call = true) (hf : fixV v = true) (hfx : nameB fix = true) (hz : n ≠ 0) :
    Calls Tryd.prog 8 #[cmV ⟨verb, call, n, fix⟩] w (CkP ⟨verb, call, n, fix⟩ w) := by
  have hm := fix_num hf
  have HV := Lib.hid (fun (W : World) (hb : BxP verb call n fix w W) => (verb_any verb W).mono fun e W2 h => (show e = .returned (.int .i64 v) ∧ BxP verb call n fix w W2 ∧ _ from ⟨by rw [h.1, hv], hb.on h.2, (hb.on h.2).cells⟩))
  have tokA : True := trivial
  have HA := Lib.hid (fun (W : World) (hb : BxP verb call n fix w W) => (Name_any call W h1).mono fun e W2 h => (show e = .returned (.bool true) ∧ BxP verb call n fix w W2 ∧ _ from ⟨by rw [h.1, ha], hb.on h.2, (hb.on h.2).cells⟩))
  have HB := Lib.hid (fun (W : World) (hb : BxP verb call n fix w W) => (Name_any fix W h2).mono fun e W2 h => (show e = .returned (.bool true) ∧ BxP verb call n fix w W2 ∧ _ from ⟨by rw [h.1, hfx], hb.on h.2, (hb.on h.2).cells⟩))
  have HF := Lib.hid (fun (W : World) => (fix_any v W).mono fun e W2 h => (show e = .returned (.bool true) ∧ W = W2 from ⟨by rw [h.1, hf], h.2⟩))
  have HM := Lib.hid (fun (W : World) => (num_any v W).mono fun e W2 h => (show e = .returned (.bool false) ∧ W = W2 from ⟨by rw [h.1, hm], h.2⟩))
  have HR : Hid (chkC ⟨verb, call, n, fix⟩ = 3) := Lib.hid (by unfold chkC; dsimp only; rw [hv, if_neg hn, if_neg (by rw [ha, hfx]; rintro (h | ⟨_, h⟩) <;> cases h), if_pos (.inr ⟨hm, hz⟩)])
  have b0 : decide (v < 0) = false := decide_eq_false hn
  have bz : decide (n = 0) = false := decide_eq_false hz
  clear hn hv h1 h2 ha hf hfx hm
  unfold CkP cmV
  go_enter Tryd.func8, Tryd.ntmps8
  go_wp2_with (first | (go_at_call 11; go_loud (refine (HV.out _ (by exact bx_self _ _ _ _ w)).mono ?_; rintro e w1 ⟨rfl, hb1, c11, c12, c13, l11, l12⟩)) | (go_at_call 16; go_loud (first | (have _t := tokA; refine (HA.out _ (by exact hb1)).mono ?_; rintro e w2 ⟨rfl, hb2, c21, c22, c23, l21, l22⟩; clear tokA) | (refine (HB.out _ (by exact hb2)).mono ?_; rintro e w3 ⟨rfl, hb3, c31, c32, c33, l31, l32⟩))) | (go_at_call 14; go_loud (refine (HF.out _).mono ?_; rintro e w4 ⟨rfl, rfl⟩)) | (go_at_call 12; go_loud (refine (HM.out _).mono ?_; rintro e w5 ⟨rfl, rfl⟩)))
  go_ret
  exact ⟨by rw [HR.out]; rfl, by first | exact hb3.below | exact hb2.below | exact hb1.below | exact hb2.below.alloc (by omega) _⟩
set_option maxRecDepth 100000 in
set_option maxHeartbeats 4000000 in
theorem ck_f0 (verb call fix : ByteArray) (n : Int) (v : Int) (w : World) (hv : vIx verb = v) (h1 : call.size ≤ maxLen) (h2 : fix.size ≤ maxLen) (hn : ¬ v < 0) (ha : nameB call = true) (hf : fixV v = true) (hfx : nameB fix = true) (hz : n = 0) :
    Calls Tryd.prog 8 #[cmV ⟨verb, call, n, fix⟩] w (CkP ⟨verb, call, n, fix⟩ w) := by
  have hm := fix_num hf
  have HV := Lib.hid (fun (W : World) (hb : BxP verb call n fix w W) => (verb_any verb W).mono fun e W2 h => (show e = .returned (.int .i64 v) ∧ BxP verb call n fix w W2 ∧ _ from ⟨by rw [h.1, hv], hb.on h.2, (hb.on h.2).cells⟩))
  have tokA : True := trivial
  have HA := Lib.hid (fun (W : World) (hb : BxP verb call n fix w W) => (Name_any call W h1).mono fun e W2 h => (show e = .returned (.bool true) ∧ BxP verb call n fix w W2 ∧ _ from ⟨by rw [h.1, ha], hb.on h.2, (hb.on h.2).cells⟩))
  have HB := Lib.hid (fun (W : World) (hb : BxP verb call n fix w W) => (Name_any fix W h2).mono fun e W2 h => (show e = .returned (.bool true) ∧ BxP verb call n fix w W2 ∧ _ from ⟨by rw [h.1, hfx], hb.on h.2, (hb.on h.2).cells⟩))
  have HF := Lib.hid (fun (W : World) => (fix_any v W).mono fun e W2 h => (show e = .returned (.bool true) ∧ W = W2 from ⟨by rw [h.1, hf], h.2⟩))
  have HM := Lib.hid (fun (W : World) => (num_any v W).mono fun e W2 h => (show e = .returned (.bool false) ∧ W = W2 from ⟨by rw [h.1, hm], h.2⟩))
  have HR : Hid (chkC ⟨verb, call, n, fix⟩ = 0) := Lib.hid (by unfold chkC; dsimp only; rw [hv, if_neg hn, if_neg (by rw [ha, hfx]; rintro (h | ⟨_, h⟩) <;> cases h), if_neg (by rw [hf, hz]; rintro (⟨h, _⟩ | ⟨_, h⟩) <;> first | cases h | exact h rfl), if_neg (by rw [hm]; rintro ⟨h, _⟩; cases h)])
  have b0 : decide (v < 0) = false := decide_eq_false hn
  subst hz
  clear hn hv h1 h2 ha hf hfx hm
  unfold CkP cmV
  go_enter Tryd.func8, Tryd.ntmps8
  go_wp2_with (first | (go_at_call 11; go_loud (refine (HV.out _ (by exact bx_self _ _ _ _ w)).mono ?_; rintro e w1 ⟨rfl, hb1, c11, c12, c13, l11, l12⟩)) | (go_at_call 16; go_loud (first | (have _t := tokA; refine (HA.out _ (by exact hb1)).mono ?_; rintro e w2 ⟨rfl, hb2, c21, c22, c23, l21, l22⟩; clear tokA) | (refine (HB.out _ (by exact hb2)).mono ?_; rintro e w3 ⟨rfl, hb3, c31, c32, c33, l31, l32⟩))) | (go_at_call 14; go_loud (refine (HF.out _).mono ?_; rintro e w4 ⟨rfl, rfl⟩)) | (go_at_call 12; go_loud (refine (HM.out _).mono ?_; rintro e w5 ⟨rfl, rfl⟩)))
  go_ret
  exact ⟨by rw [HR.out]; rfl, by first | exact hb3.below | exact hb2.below | exact hb1.below | exact hb2.below.alloc (by omega) _⟩
set_option maxRecDepth 100000 in
set_option maxHeartbeats 4000000 in
theorem ck_e3 (verb call fix : ByteArray) (n : Int) (v : Int) (w : World) (hv : vIx verb = v) (h1 : call.size ≤ maxLen) (_h2 : fix.size ≤ maxLen) (hn : ¬ v < 0) (ha : nameB call = true) (hf : fixV v = false) (hz : fix ≠ .empty) :
    Calls Tryd.prog 8 #[cmV ⟨verb, call, n, fix⟩] w (CkP ⟨verb, call, n, fix⟩ w) := by
  have HV := Lib.hid (fun (W : World) (hb : BxP verb call n fix w W) => (verb_any verb W).mono fun e W2 h => (show e = .returned (.int .i64 v) ∧ BxP verb call n fix w W2 ∧ _ from ⟨by rw [h.1, hv], hb.on h.2, (hb.on h.2).cells⟩))
  have tokA : True := trivial
  have HA := Lib.hid (fun (W : World) (hb : BxP verb call n fix w W) => (Name_any call W h1).mono fun e W2 h => (show e = .returned (.bool true) ∧ BxP verb call n fix w W2 ∧ _ from ⟨by rw [h.1, ha], hb.on h.2, (hb.on h.2).cells⟩))
  have HF := Lib.hid (fun (W : World) => (fix_any v W).mono fun e W2 h => (show e = .returned (.bool false) ∧ W = W2 from ⟨by rw [h.1, hf], h.2⟩))
  have HR : Hid (chkC ⟨verb, call, n, fix⟩ = 3) := Lib.hid (by unfold chkC; dsimp only; rw [hv, if_neg hn, if_neg (by rw [ha, hf]; rintro (h | ⟨h, _⟩) <;> cases h), if_pos (.inl ⟨hf, hz⟩)])
  have b0 : decide (v < 0) = false := decide_eq_false hn
  have be : fix.toList.isEmpty = false := by rw [ByteArray.toList_eq]; exact not_empty hz
  clear hn hv h1 ha hf hz
  unfold CkP cmV
  go_enter Tryd.func8, Tryd.ntmps8
  go_wp2_with (first | (go_at_call 11; go_loud (refine (HV.out _ (by exact bx_self _ _ _ _ w)).mono ?_; rintro e w1 ⟨rfl, hb1, c11, c12, c13, l11, l12⟩)) | (go_at_call 16; go_loud (first | (have _t := tokA; refine (HA.out _ (by exact hb1)).mono ?_; rintro e w2 ⟨rfl, hb2, c21, c22, c23, l21, l22⟩; clear tokA) | (refine (HB.out _ (by exact hb2)).mono ?_; rintro e w3 ⟨rfl, hb3, c31, c32, c33, l31, l32⟩))) | (go_at_call 14; go_loud (refine (HF.out _).mono ?_; rintro e w4 ⟨rfl, rfl⟩)) | (go_at_call 12; go_loud (refine (HM.out _).mono ?_; rintro e w5 ⟨rfl, rfl⟩)))
  go_ret
  exact ⟨by rw [HR.out]; rfl, by first | exact hb3.below | exact hb2.below | exact hb1.below | exact hb2.below.alloc (by omega) _⟩
set_option maxRecDepth 100000 in
set_option maxHeartbeats 4000000 in
theorem ck_n3 (verb call fix : ByteArray) (n : Int) (v : Int) (w : World) (hv : vIx verb = v) (h1 : call.size ≤ maxLen) (h2 : fix.size ≤ maxLen) (hn : ¬ v < 0) (ha : nameB call = true) (hf : fixV v = false) (hz : fix = .empty) (hm : numV v = false) (hz2 : n ≠ 0) :
    Calls Tryd.prog 8 #[cmV ⟨verb, call, n, fix⟩] w (CkP ⟨verb, call, n, fix⟩ w) := by
  subst hz
  have HV := Lib.hid (fun (W : World) (hb : BxP verb call n .empty w W) => (verb_any verb W).mono fun e W2 h => (show e = .returned (.int .i64 v) ∧ BxP verb call n .empty w W2 ∧ _ from ⟨by rw [h.1, hv], hb.on h.2, (hb.on h.2).cells⟩))
  have tokA : True := trivial
  have HA := Lib.hid (fun (W : World) (hb : BxP verb call n .empty w W) => (Name_any call W h1).mono fun e W2 h => (show e = .returned (.bool true) ∧ BxP verb call n .empty w W2 ∧ _ from ⟨by rw [h.1, ha], hb.on h.2, (hb.on h.2).cells⟩))
  have HF := Lib.hid (fun (W : World) => (fix_any v W).mono fun e W2 h => (show e = .returned (.bool false) ∧ W = W2 from ⟨by rw [h.1, hf], h.2⟩))
  have HM := Lib.hid (fun (W : World) => (num_any v W).mono fun e W2 h => (show e = .returned (.bool false) ∧ W = W2 from ⟨by rw [h.1, hm], h.2⟩))
  have HR : Hid (chkC ⟨verb, call, n, .empty⟩ = 3) := Lib.hid (by unfold chkC; dsimp only; rw [hv, if_neg hn, if_neg (by rw [ha, hf]; rintro (h | ⟨h, _⟩) <;> cases h), if_pos (.inr ⟨hm, hz2⟩)])
  have b0 : decide (v < 0) = false := decide_eq_false hn
  have bz : decide (n = 0) = false := decide_eq_false hz2
  clear hn hv h1 h2 ha hf hm
  unfold CkP cmV
  go_enter Tryd.func8, Tryd.ntmps8
  go_wp2_with (first | (go_at_call 11; go_loud (refine (HV.out _ (by exact bx_self _ _ _ _ w)).mono ?_; rintro e w1 ⟨rfl, hb1, c11, c12, c13, l11, l12⟩)) | (go_at_call 16; go_loud (first | (have _t := tokA; refine (HA.out _ (by exact hb1)).mono ?_; rintro e w2 ⟨rfl, hb2, c21, c22, c23, l21, l22⟩; clear tokA) | (refine (HB.out _ (by exact hb2)).mono ?_; rintro e w3 ⟨rfl, hb3, c31, c32, c33, l31, l32⟩))) | (go_at_call 14; go_loud (refine (HF.out _).mono ?_; rintro e w4 ⟨rfl, rfl⟩)) | (go_at_call 12; go_loud (refine (HM.out _).mono ?_; rintro e w5 ⟨rfl, rfl⟩)))
  go_ret
  exact ⟨by rw [HR.out]; rfl, by first | exact hb3.below | exact hb2.below | exact hb1.below | exact hb2.below.alloc (by omega) _⟩
set_option maxRecDepth 100000 in
set_option maxHeartbeats 4000000 in
theorem ck_n0 (verb call fix : ByteArray) (n : Int) (v : Int) (w : World) (hv : vIx verb = v) (h1 : call.size ≤ maxLen) (h2 : fix.size ≤ maxLen) (hn : ¬ v < 0) (ha : nameB call = true) (hf : fixV v = false) (hz : fix = .empty) (hm : numV v = false) (hz2 : n = 0) :
    Calls Tryd.prog 8 #[cmV ⟨verb, call, n, fix⟩] w (CkP ⟨verb, call, n, fix⟩ w) := by
  subst hz
  have HV := Lib.hid (fun (W : World) (hb : BxP verb call n .empty w W) => (verb_any verb W).mono fun e W2 h => (show e = .returned (.int .i64 v) ∧ BxP verb call n .empty w W2 ∧ _ from ⟨by rw [h.1, hv], hb.on h.2, (hb.on h.2).cells⟩))
  have tokA : True := trivial
  have HA := Lib.hid (fun (W : World) (hb : BxP verb call n .empty w W) => (Name_any call W h1).mono fun e W2 h => (show e = .returned (.bool true) ∧ BxP verb call n .empty w W2 ∧ _ from ⟨by rw [h.1, ha], hb.on h.2, (hb.on h.2).cells⟩))
  have HF := Lib.hid (fun (W : World) => (fix_any v W).mono fun e W2 h => (show e = .returned (.bool false) ∧ W = W2 from ⟨by rw [h.1, hf], h.2⟩))
  have HM := Lib.hid (fun (W : World) => (num_any v W).mono fun e W2 h => (show e = .returned (.bool false) ∧ W = W2 from ⟨by rw [h.1, hm], h.2⟩))
  have HR : Hid (chkC ⟨verb, call, n, .empty⟩ = 0) := Lib.hid (by unfold chkC; dsimp only; rw [hv, if_neg hn, if_neg (by rw [ha, hf]; rintro (h | ⟨h, _⟩) <;> cases h), if_neg (by rw [hz2]; rintro (⟨_, h⟩ | ⟨_, h⟩) <;> exact h rfl), if_neg (by rw [hm]; rintro ⟨h, _⟩; cases h)])
  have b0 : decide (v < 0) = false := decide_eq_false hn
  subst hz2
  clear hn hv h1 h2 ha hf hm
  unfold CkP cmV
  go_enter Tryd.func8, Tryd.ntmps8
  go_wp2_with (first | (go_at_call 11; go_loud (refine (HV.out _ (by exact bx_self _ _ _ _ w)).mono ?_; rintro e w1 ⟨rfl, hb1, c11, c12, c13, l11, l12⟩)) | (go_at_call 16; go_loud (first | (have _t := tokA; refine (HA.out _ (by exact hb1)).mono ?_; rintro e w2 ⟨rfl, hb2, c21, c22, c23, l21, l22⟩; clear tokA) | (refine (HB.out _ (by exact hb2)).mono ?_; rintro e w3 ⟨rfl, hb3, c31, c32, c33, l31, l32⟩))) | (go_at_call 14; go_loud (refine (HF.out _).mono ?_; rintro e w4 ⟨rfl, rfl⟩)) | (go_at_call 12; go_loud (refine (HM.out _).mono ?_; rintro e w5 ⟨rfl, rfl⟩)))
  go_ret
  exact ⟨by rw [HR.out]; rfl, by first | exact hb3.below | exact hb2.below | exact hb1.below | exact hb2.below.alloc (by omega) _⟩
set_option maxRecDepth 100000 in
set_option maxHeartbeats 4000000 in
theorem ck_0lo (verb call fix : ByteArray) (n : Int) (v : Int) (w : World) (hv : vIx verb = v) (h1 : call.size ≤ maxLen) (h2 : fix.size ≤ maxLen) (hk : v = 0) (ha : nameB call = true) (hz : fix = .empty) (hz2 : n < 0) :
    Calls Tryd.prog 8 #[cmV ⟨verb, call, n, fix⟩] w (CkP ⟨verb, call, n, fix⟩ w) := by
  subst hk
  subst hz
  have hf : fixV 0 = false := rfl
  have hm : numV 0 = true := rfl
  have HV := Lib.hid (fun (W : World) (hb : BxP verb call n .empty w W) => (verb_any verb W).mono fun e W2 h => (show e = .returned (.int .i64 0) ∧ BxP verb call n .empty w W2 ∧ _ from ⟨by rw [h.1, hv], hb.on h.2, (hb.on h.2).cells⟩))
  have tokA : True := trivial
  have HA := Lib.hid (fun (W : World) (hb : BxP verb call n .empty w W) => (Name_any call W h1).mono fun e W2 h => (show e = .returned (.bool true) ∧ BxP verb call n .empty w W2 ∧ _ from ⟨by rw [h.1, ha], hb.on h.2, (hb.on h.2).cells⟩))
  have HF := Lib.hid (fun (W : World) => (fix_any 0 W).mono fun e W2 h => (show e = .returned (.bool false) ∧ W = W2 from ⟨by rw [h.1, hf], h.2⟩))
  have HM := Lib.hid (fun (W : World) => (num_any 0 W).mono fun e W2 h => (show e = .returned (.bool true) ∧ W = W2 from ⟨by rw [h.1, hm], h.2⟩))
  have HR : Hid (chkC ⟨verb, call, n, .empty⟩ = 4) := Lib.hid (by unfold chkC; dsimp only; rw [hv, if_neg (by decide), if_neg (by rw [ha, hf]; rintro (h | ⟨h, _⟩) <;> cases h), if_neg (by rw [hm]; rintro (⟨_, h⟩ | ⟨h, _⟩) <;> first | cases h | exact h rfl), if_pos ⟨hm, .inl hz2⟩])
  have bn : decide (n < 0) = true := decide_eq_true hz2
  clear hv h1 h2 ha hf hm hz2
  unfold CkP cmV
  go_enter Tryd.func8, Tryd.ntmps8
  go_wp2_with (first | (go_at_call 11; go_loud (refine (HV.out _ (by exact bx_self _ _ _ _ w)).mono ?_; rintro e w1 ⟨rfl, hb1, c11, c12, c13, l11, l12⟩)) | (go_at_call 16; go_loud (first | (have _t := tokA; refine (HA.out _ (by exact hb1)).mono ?_; rintro e w2 ⟨rfl, hb2, c21, c22, c23, l21, l22⟩; clear tokA) | (refine (HB.out _ (by exact hb2)).mono ?_; rintro e w3 ⟨rfl, hb3, c31, c32, c33, l31, l32⟩))) | (go_at_call 14; go_loud (refine (HF.out _).mono ?_; rintro e w4 ⟨rfl, rfl⟩)) | (go_at_call 12; go_loud (refine (HM.out _).mono ?_; rintro e w5 ⟨rfl, rfl⟩)))
  go_ret
  exact ⟨by rw [HR.out]; rfl, by first | exact hb3.below | exact hb2.below | exact hb1.below | exact hb2.below.alloc (by omega) _⟩
set_option maxRecDepth 100000 in
set_option maxHeartbeats 4000000 in
theorem ck_0hi (verb call fix : ByteArray) (n : Int) (v : Int) (w : World) (hv : vIx verb = v) (h1 : call.size ≤ maxLen) (h2 : fix.size ≤ maxLen) (hk : v = 0) (ha : nameB call = true) (hz : fix = .empty) (hz2 : 60000 < n) :
    Calls Tryd.prog 8 #[cmV ⟨verb, call, n, fix⟩] w (CkP ⟨verb, call, n, fix⟩ w) := by
  subst hk
  subst hz
  have hf : fixV 0 = false := rfl
  have hm : numV 0 = true := rfl
  have HV := Lib.hid (fun (W : World) (hb : BxP verb call n .empty w W) => (verb_any verb W).mono fun e W2 h => (show e = .returned (.int .i64 0) ∧ BxP verb call n .empty w W2 ∧ _ from ⟨by rw [h.1, hv], hb.on h.2, (hb.on h.2).cells⟩))
  have tokA : True := trivial
  have HA := Lib.hid (fun (W : World) (hb : BxP verb call n .empty w W) => (Name_any call W h1).mono fun e W2 h => (show e = .returned (.bool true) ∧ BxP verb call n .empty w W2 ∧ _ from ⟨by rw [h.1, ha], hb.on h.2, (hb.on h.2).cells⟩))
  have HF := Lib.hid (fun (W : World) => (fix_any 0 W).mono fun e W2 h => (show e = .returned (.bool false) ∧ W = W2 from ⟨by rw [h.1, hf], h.2⟩))
  have HM := Lib.hid (fun (W : World) => (num_any 0 W).mono fun e W2 h => (show e = .returned (.bool true) ∧ W = W2 from ⟨by rw [h.1, hm], h.2⟩))
  have HR : Hid (chkC ⟨verb, call, n, .empty⟩ = 4) := Lib.hid (by unfold chkC; dsimp only; rw [hv, if_neg (by decide), if_neg (by rw [ha, hf]; rintro (h | ⟨h, _⟩) <;> cases h), if_neg (by rw [hm]; rintro (⟨_, h⟩ | ⟨h, _⟩) <;> first | cases h | exact h rfl), if_pos ⟨hm, .inr hz2⟩])
  have bn : decide (n < 0) = false := decide_eq_false (by omega)
  have bm : decide ((60000 : Int) < n) = true := decide_eq_true hz2
  clear hv h1 h2 ha hf hm hz2
  unfold CkP cmV
  go_enter Tryd.func8, Tryd.ntmps8
  go_wp2_with (first | (go_at_call 11; go_loud (refine (HV.out _ (by exact bx_self _ _ _ _ w)).mono ?_; rintro e w1 ⟨rfl, hb1, c11, c12, c13, l11, l12⟩)) | (go_at_call 16; go_loud (first | (have _t := tokA; refine (HA.out _ (by exact hb1)).mono ?_; rintro e w2 ⟨rfl, hb2, c21, c22, c23, l21, l22⟩; clear tokA) | (refine (HB.out _ (by exact hb2)).mono ?_; rintro e w3 ⟨rfl, hb3, c31, c32, c33, l31, l32⟩))) | (go_at_call 14; go_loud (refine (HF.out _).mono ?_; rintro e w4 ⟨rfl, rfl⟩)) | (go_at_call 12; go_loud (refine (HM.out _).mono ?_; rintro e w5 ⟨rfl, rfl⟩)))
  go_ret
  exact ⟨by rw [HR.out]; rfl, by first | exact hb3.below | exact hb2.below | exact hb1.below | exact hb2.below.alloc (by omega) _⟩
set_option maxRecDepth 100000 in
set_option maxHeartbeats 4000000 in
theorem ck_0ok (verb call fix : ByteArray) (n : Int) (v : Int) (w : World) (hv : vIx verb = v) (h1 : call.size ≤ maxLen) (h2 : fix.size ≤ maxLen) (hk : v = 0) (ha : nameB call = true) (hz : fix = .empty) (hz2 : 0 ≤ n ∧ n ≤ 60000) :
    Calls Tryd.prog 8 #[cmV ⟨verb, call, n, fix⟩] w (CkP ⟨verb, call, n, fix⟩ w) := by
  subst hk
  subst hz
  have hf : fixV 0 = false := rfl
  have hm : numV 0 = true := rfl
  have HV := Lib.hid (fun (W : World) (hb : BxP verb call n .empty w W) => (verb_any verb W).mono fun e W2 h => (show e = .returned (.int .i64 0) ∧ BxP verb call n .empty w W2 ∧ _ from ⟨by rw [h.1, hv], hb.on h.2, (hb.on h.2).cells⟩))
  have tokA : True := trivial
  have HA := Lib.hid (fun (W : World) (hb : BxP verb call n .empty w W) => (Name_any call W h1).mono fun e W2 h => (show e = .returned (.bool true) ∧ BxP verb call n .empty w W2 ∧ _ from ⟨by rw [h.1, ha], hb.on h.2, (hb.on h.2).cells⟩))
  have HF := Lib.hid (fun (W : World) => (fix_any 0 W).mono fun e W2 h => (show e = .returned (.bool false) ∧ W = W2 from ⟨by rw [h.1, hf], h.2⟩))
  have HM := Lib.hid (fun (W : World) => (num_any 0 W).mono fun e W2 h => (show e = .returned (.bool true) ∧ W = W2 from ⟨by rw [h.1, hm], h.2⟩))
  have HR : Hid (chkC ⟨verb, call, n, .empty⟩ = 0) := Lib.hid (by unfold chkC; dsimp only; rw [hv, if_neg (by decide), if_neg (by rw [ha, hf]; rintro (h | ⟨h, _⟩) <;> cases h), if_neg (by rw [hm]; rintro (⟨_, h⟩ | ⟨h, _⟩) <;> first | cases h | exact h rfl), if_neg (by rw [show mostV 0 = 60000 from rfl]; rintro ⟨_, h⟩; omega)])
  have bn : decide (n < 0) = false := decide_eq_false (by omega)
  have bm : decide ((60000 : Int) < n) = false := decide_eq_false (by omega)
  clear hv h1 h2 ha hf hm hz2
  unfold CkP cmV
  go_enter Tryd.func8, Tryd.ntmps8
  go_wp2_with (first | (go_at_call 11; go_loud (refine (HV.out _ (by exact bx_self _ _ _ _ w)).mono ?_; rintro e w1 ⟨rfl, hb1, c11, c12, c13, l11, l12⟩)) | (go_at_call 16; go_loud (first | (have _t := tokA; refine (HA.out _ (by exact hb1)).mono ?_; rintro e w2 ⟨rfl, hb2, c21, c22, c23, l21, l22⟩; clear tokA) | (refine (HB.out _ (by exact hb2)).mono ?_; rintro e w3 ⟨rfl, hb3, c31, c32, c33, l31, l32⟩))) | (go_at_call 14; go_loud (refine (HF.out _).mono ?_; rintro e w4 ⟨rfl, rfl⟩)) | (go_at_call 12; go_loud (refine (HM.out _).mono ?_; rintro e w5 ⟨rfl, rfl⟩)))
  go_ret
  exact ⟨by rw [HR.out]; rfl, by first | exact hb3.below | exact hb2.below | exact hb1.below | exact hb2.below.alloc (by omega) _⟩
set_option maxRecDepth 100000 in
set_option maxHeartbeats 4000000 in
theorem ck_1lo (verb call fix : ByteArray) (n : Int) (v : Int) (w : World) (hv : vIx verb = v) (h1 : call.size ≤ maxLen) (h2 : fix.size ≤ maxLen) (hk : v = 1) (ha : nameB call = true) (hz : fix = .empty) (hz2 : n < 0) :
    Calls Tryd.prog 8 #[cmV ⟨verb, call, n, fix⟩] w (CkP ⟨verb, call, n, fix⟩ w) := by
  subst hk
  subst hz
  have hf : fixV 1 = false := rfl
  have hm : numV 1 = true := rfl
  have HV := Lib.hid (fun (W : World) (hb : BxP verb call n .empty w W) => (verb_any verb W).mono fun e W2 h => (show e = .returned (.int .i64 1) ∧ BxP verb call n .empty w W2 ∧ _ from ⟨by rw [h.1, hv], hb.on h.2, (hb.on h.2).cells⟩))
  have tokA : True := trivial
  have HA := Lib.hid (fun (W : World) (hb : BxP verb call n .empty w W) => (Name_any call W h1).mono fun e W2 h => (show e = .returned (.bool true) ∧ BxP verb call n .empty w W2 ∧ _ from ⟨by rw [h.1, ha], hb.on h.2, (hb.on h.2).cells⟩))
  have HF := Lib.hid (fun (W : World) => (fix_any 1 W).mono fun e W2 h => (show e = .returned (.bool false) ∧ W = W2 from ⟨by rw [h.1, hf], h.2⟩))
  have HM := Lib.hid (fun (W : World) => (num_any 1 W).mono fun e W2 h => (show e = .returned (.bool true) ∧ W = W2 from ⟨by rw [h.1, hm], h.2⟩))
  have HR : Hid (chkC ⟨verb, call, n, .empty⟩ = 4) := Lib.hid (by unfold chkC; dsimp only; rw [hv, if_neg (by decide), if_neg (by rw [ha, hf]; rintro (h | ⟨h, _⟩) <;> cases h), if_neg (by rw [hm]; rintro (⟨_, h⟩ | ⟨h, _⟩) <;> first | cases h | exact h rfl), if_pos ⟨hm, .inl hz2⟩])
  have bn : decide (n < 0) = true := decide_eq_true hz2
  clear hv h1 h2 ha hf hm hz2
  unfold CkP cmV
  go_enter Tryd.func8, Tryd.ntmps8
  go_wp2_with (first | (go_at_call 11; go_loud (refine (HV.out _ (by exact bx_self _ _ _ _ w)).mono ?_; rintro e w1 ⟨rfl, hb1, c11, c12, c13, l11, l12⟩)) | (go_at_call 16; go_loud (first | (have _t := tokA; refine (HA.out _ (by exact hb1)).mono ?_; rintro e w2 ⟨rfl, hb2, c21, c22, c23, l21, l22⟩; clear tokA) | (refine (HB.out _ (by exact hb2)).mono ?_; rintro e w3 ⟨rfl, hb3, c31, c32, c33, l31, l32⟩))) | (go_at_call 14; go_loud (refine (HF.out _).mono ?_; rintro e w4 ⟨rfl, rfl⟩)) | (go_at_call 12; go_loud (refine (HM.out _).mono ?_; rintro e w5 ⟨rfl, rfl⟩)))
  go_ret
  exact ⟨by rw [HR.out]; rfl, by first | exact hb3.below | exact hb2.below | exact hb1.below | exact hb2.below.alloc (by omega) _⟩
set_option maxRecDepth 100000 in
set_option maxHeartbeats 4000000 in
theorem ck_1hi (verb call fix : ByteArray) (n : Int) (v : Int) (w : World) (hv : vIx verb = v) (h1 : call.size ≤ maxLen) (h2 : fix.size ≤ maxLen) (hk : v = 1) (ha : nameB call = true) (hz : fix = .empty) (hz2 : 4095 < n) :
    Calls Tryd.prog 8 #[cmV ⟨verb, call, n, fix⟩] w (CkP ⟨verb, call, n, fix⟩ w) := by
  subst hk
  subst hz
  have hf : fixV 1 = false := rfl
  have hm : numV 1 = true := rfl
  have HV := Lib.hid (fun (W : World) (hb : BxP verb call n .empty w W) => (verb_any verb W).mono fun e W2 h => (show e = .returned (.int .i64 1) ∧ BxP verb call n .empty w W2 ∧ _ from ⟨by rw [h.1, hv], hb.on h.2, (hb.on h.2).cells⟩))
  have tokA : True := trivial
  have HA := Lib.hid (fun (W : World) (hb : BxP verb call n .empty w W) => (Name_any call W h1).mono fun e W2 h => (show e = .returned (.bool true) ∧ BxP verb call n .empty w W2 ∧ _ from ⟨by rw [h.1, ha], hb.on h.2, (hb.on h.2).cells⟩))
  have HF := Lib.hid (fun (W : World) => (fix_any 1 W).mono fun e W2 h => (show e = .returned (.bool false) ∧ W = W2 from ⟨by rw [h.1, hf], h.2⟩))
  have HM := Lib.hid (fun (W : World) => (num_any 1 W).mono fun e W2 h => (show e = .returned (.bool true) ∧ W = W2 from ⟨by rw [h.1, hm], h.2⟩))
  have HR : Hid (chkC ⟨verb, call, n, .empty⟩ = 4) := Lib.hid (by unfold chkC; dsimp only; rw [hv, if_neg (by decide), if_neg (by rw [ha, hf]; rintro (h | ⟨h, _⟩) <;> cases h), if_neg (by rw [hm]; rintro (⟨_, h⟩ | ⟨h, _⟩) <;> first | cases h | exact h rfl), if_pos ⟨hm, .inr hz2⟩])
  have bn : decide (n < 0) = false := decide_eq_false (by omega)
  have bm : decide ((4095 : Int) < n) = true := decide_eq_true hz2
  clear hv h1 h2 ha hf hm hz2
  unfold CkP cmV
  go_enter Tryd.func8, Tryd.ntmps8
  go_wp2_with (first | (go_at_call 11; go_loud (refine (HV.out _ (by exact bx_self _ _ _ _ w)).mono ?_; rintro e w1 ⟨rfl, hb1, c11, c12, c13, l11, l12⟩)) | (go_at_call 16; go_loud (first | (have _t := tokA; refine (HA.out _ (by exact hb1)).mono ?_; rintro e w2 ⟨rfl, hb2, c21, c22, c23, l21, l22⟩; clear tokA) | (refine (HB.out _ (by exact hb2)).mono ?_; rintro e w3 ⟨rfl, hb3, c31, c32, c33, l31, l32⟩))) | (go_at_call 14; go_loud (refine (HF.out _).mono ?_; rintro e w4 ⟨rfl, rfl⟩)) | (go_at_call 12; go_loud (refine (HM.out _).mono ?_; rintro e w5 ⟨rfl, rfl⟩)))
  go_ret
  exact ⟨by rw [HR.out]; rfl, by first | exact hb3.below | exact hb2.below | exact hb1.below | exact hb2.below.alloc (by omega) _⟩
set_option maxRecDepth 100000 in
set_option maxHeartbeats 4000000 in
theorem ck_1ok (verb call fix : ByteArray) (n : Int) (v : Int) (w : World) (hv : vIx verb = v) (h1 : call.size ≤ maxLen) (h2 : fix.size ≤ maxLen) (hk : v = 1) (ha : nameB call = true) (hz : fix = .empty) (hz2 : 0 ≤ n ∧ n ≤ 4095) :
    Calls Tryd.prog 8 #[cmV ⟨verb, call, n, fix⟩] w (CkP ⟨verb, call, n, fix⟩ w) := by
  subst hk
  subst hz
  have hf : fixV 1 = false := rfl
  have hm : numV 1 = true := rfl
  have HV := Lib.hid (fun (W : World) (hb : BxP verb call n .empty w W) => (verb_any verb W).mono fun e W2 h => (show e = .returned (.int .i64 1) ∧ BxP verb call n .empty w W2 ∧ _ from ⟨by rw [h.1, hv], hb.on h.2, (hb.on h.2).cells⟩))
  have tokA : True := trivial
  have HA := Lib.hid (fun (W : World) (hb : BxP verb call n .empty w W) => (Name_any call W h1).mono fun e W2 h => (show e = .returned (.bool true) ∧ BxP verb call n .empty w W2 ∧ _ from ⟨by rw [h.1, ha], hb.on h.2, (hb.on h.2).cells⟩))
  have HF := Lib.hid (fun (W : World) => (fix_any 1 W).mono fun e W2 h => (show e = .returned (.bool false) ∧ W = W2 from ⟨by rw [h.1, hf], h.2⟩))
  have HM := Lib.hid (fun (W : World) => (num_any 1 W).mono fun e W2 h => (show e = .returned (.bool true) ∧ W = W2 from ⟨by rw [h.1, hm], h.2⟩))
  have HR : Hid (chkC ⟨verb, call, n, .empty⟩ = 0) := Lib.hid (by unfold chkC; dsimp only; rw [hv, if_neg (by decide), if_neg (by rw [ha, hf]; rintro (h | ⟨h, _⟩) <;> cases h), if_neg (by rw [hm]; rintro (⟨_, h⟩ | ⟨h, _⟩) <;> first | cases h | exact h rfl), if_neg (by rw [show mostV 1 = 4095 from rfl]; rintro ⟨_, h⟩; omega)])
  have bn : decide (n < 0) = false := decide_eq_false (by omega)
  have bm : decide ((4095 : Int) < n) = false := decide_eq_false (by omega)
  clear hv h1 h2 ha hf hm hz2
  unfold CkP cmV
  go_enter Tryd.func8, Tryd.ntmps8
  go_wp2_with (first | (go_at_call 11; go_loud (refine (HV.out _ (by exact bx_self _ _ _ _ w)).mono ?_; rintro e w1 ⟨rfl, hb1, c11, c12, c13, l11, l12⟩)) | (go_at_call 16; go_loud (first | (have _t := tokA; refine (HA.out _ (by exact hb1)).mono ?_; rintro e w2 ⟨rfl, hb2, c21, c22, c23, l21, l22⟩; clear tokA) | (refine (HB.out _ (by exact hb2)).mono ?_; rintro e w3 ⟨rfl, hb3, c31, c32, c33, l31, l32⟩))) | (go_at_call 14; go_loud (refine (HF.out _).mono ?_; rintro e w4 ⟨rfl, rfl⟩)) | (go_at_call 12; go_loud (refine (HM.out _).mono ?_; rintro e w5 ⟨rfl, rfl⟩)))
  go_ret
  exact ⟨by rw [HR.out]; rfl, by first | exact hb3.below | exact hb2.below | exact hb1.below | exact hb2.below.alloc (by omega) _⟩
set_option maxRecDepth 100000 in
set_option maxHeartbeats 4000000 in
theorem ck_2lo (verb call fix : ByteArray) (n : Int) (v : Int) (w : World) (hv : vIx verb = v) (h1 : call.size ≤ maxLen) (h2 : fix.size ≤ maxLen) (hk : v = 2) (ha : nameB call = true) (hz : fix = .empty) (hz2 : n < 0) :
    Calls Tryd.prog 8 #[cmV ⟨verb, call, n, fix⟩] w (CkP ⟨verb, call, n, fix⟩ w) := by
  subst hk
  subst hz
  have hf : fixV 2 = false := rfl
  have hm : numV 2 = true := rfl
  have HV := Lib.hid (fun (W : World) (hb : BxP verb call n .empty w W) => (verb_any verb W).mono fun e W2 h => (show e = .returned (.int .i64 2) ∧ BxP verb call n .empty w W2 ∧ _ from ⟨by rw [h.1, hv], hb.on h.2, (hb.on h.2).cells⟩))
  have tokA : True := trivial
  have HA := Lib.hid (fun (W : World) (hb : BxP verb call n .empty w W) => (Name_any call W h1).mono fun e W2 h => (show e = .returned (.bool true) ∧ BxP verb call n .empty w W2 ∧ _ from ⟨by rw [h.1, ha], hb.on h.2, (hb.on h.2).cells⟩))
  have HF := Lib.hid (fun (W : World) => (fix_any 2 W).mono fun e W2 h => (show e = .returned (.bool false) ∧ W = W2 from ⟨by rw [h.1, hf], h.2⟩))
  have HM := Lib.hid (fun (W : World) => (num_any 2 W).mono fun e W2 h => (show e = .returned (.bool true) ∧ W = W2 from ⟨by rw [h.1, hm], h.2⟩))
  have HR : Hid (chkC ⟨verb, call, n, .empty⟩ = 4) := Lib.hid (by unfold chkC; dsimp only; rw [hv, if_neg (by decide), if_neg (by rw [ha, hf]; rintro (h | ⟨h, _⟩) <;> cases h), if_neg (by rw [hm]; rintro (⟨_, h⟩ | ⟨h, _⟩) <;> first | cases h | exact h rfl), if_pos ⟨hm, .inl hz2⟩])
  have bn : decide (n < 0) = true := decide_eq_true hz2
  clear hv h1 h2 ha hf hm hz2
  unfold CkP cmV
  go_enter Tryd.func8, Tryd.ntmps8
  go_wp2_with (first | (go_at_call 11; go_loud (refine (HV.out _ (by exact bx_self _ _ _ _ w)).mono ?_; rintro e w1 ⟨rfl, hb1, c11, c12, c13, l11, l12⟩)) | (go_at_call 16; go_loud (first | (have _t := tokA; refine (HA.out _ (by exact hb1)).mono ?_; rintro e w2 ⟨rfl, hb2, c21, c22, c23, l21, l22⟩; clear tokA) | (refine (HB.out _ (by exact hb2)).mono ?_; rintro e w3 ⟨rfl, hb3, c31, c32, c33, l31, l32⟩))) | (go_at_call 14; go_loud (refine (HF.out _).mono ?_; rintro e w4 ⟨rfl, rfl⟩)) | (go_at_call 12; go_loud (refine (HM.out _).mono ?_; rintro e w5 ⟨rfl, rfl⟩)))
  go_ret
  exact ⟨by rw [HR.out]; rfl, by first | exact hb3.below | exact hb2.below | exact hb1.below | exact hb2.below.alloc (by omega) _⟩
set_option maxRecDepth 100000 in
set_option maxHeartbeats 4000000 in
theorem ck_2hi (verb call fix : ByteArray) (n : Int) (v : Int) (w : World) (hv : vIx verb = v) (h1 : call.size ≤ maxLen) (h2 : fix.size ≤ maxLen) (hk : v = 2) (ha : nameB call = true) (hz : fix = .empty) (hz2 : 400 < n) :
    Calls Tryd.prog 8 #[cmV ⟨verb, call, n, fix⟩] w (CkP ⟨verb, call, n, fix⟩ w) := by
  subst hk
  subst hz
  have hf : fixV 2 = false := rfl
  have hm : numV 2 = true := rfl
  have HV := Lib.hid (fun (W : World) (hb : BxP verb call n .empty w W) => (verb_any verb W).mono fun e W2 h => (show e = .returned (.int .i64 2) ∧ BxP verb call n .empty w W2 ∧ _ from ⟨by rw [h.1, hv], hb.on h.2, (hb.on h.2).cells⟩))
  have tokA : True := trivial
  have HA := Lib.hid (fun (W : World) (hb : BxP verb call n .empty w W) => (Name_any call W h1).mono fun e W2 h => (show e = .returned (.bool true) ∧ BxP verb call n .empty w W2 ∧ _ from ⟨by rw [h.1, ha], hb.on h.2, (hb.on h.2).cells⟩))
  have HF := Lib.hid (fun (W : World) => (fix_any 2 W).mono fun e W2 h => (show e = .returned (.bool false) ∧ W = W2 from ⟨by rw [h.1, hf], h.2⟩))
  have HM := Lib.hid (fun (W : World) => (num_any 2 W).mono fun e W2 h => (show e = .returned (.bool true) ∧ W = W2 from ⟨by rw [h.1, hm], h.2⟩))
  have HR : Hid (chkC ⟨verb, call, n, .empty⟩ = 4) := Lib.hid (by unfold chkC; dsimp only; rw [hv, if_neg (by decide), if_neg (by rw [ha, hf]; rintro (h | ⟨h, _⟩) <;> cases h), if_neg (by rw [hm]; rintro (⟨_, h⟩ | ⟨h, _⟩) <;> first | cases h | exact h rfl), if_pos ⟨hm, .inr hz2⟩])
  have bn : decide (n < 0) = false := decide_eq_false (by omega)
  have bm : decide ((400 : Int) < n) = true := decide_eq_true hz2
  clear hv h1 h2 ha hf hm hz2
  unfold CkP cmV
  go_enter Tryd.func8, Tryd.ntmps8
  go_wp2_with (first | (go_at_call 11; go_loud (refine (HV.out _ (by exact bx_self _ _ _ _ w)).mono ?_; rintro e w1 ⟨rfl, hb1, c11, c12, c13, l11, l12⟩)) | (go_at_call 16; go_loud (first | (have _t := tokA; refine (HA.out _ (by exact hb1)).mono ?_; rintro e w2 ⟨rfl, hb2, c21, c22, c23, l21, l22⟩; clear tokA) | (refine (HB.out _ (by exact hb2)).mono ?_; rintro e w3 ⟨rfl, hb3, c31, c32, c33, l31, l32⟩))) | (go_at_call 14; go_loud (refine (HF.out _).mono ?_; rintro e w4 ⟨rfl, rfl⟩)) | (go_at_call 12; go_loud (refine (HM.out _).mono ?_; rintro e w5 ⟨rfl, rfl⟩)))
  go_ret
  exact ⟨by rw [HR.out]; rfl, by first | exact hb3.below | exact hb2.below | exact hb1.below | exact hb2.below.alloc (by omega) _⟩
set_option maxRecDepth 100000 in
set_option maxHeartbeats 4000000 in
theorem ck_2ok (verb call fix : ByteArray) (n : Int) (v : Int) (w : World) (hv : vIx verb = v) (h1 : call.size ≤ maxLen) (h2 : fix.size ≤ maxLen) (hk : v = 2) (ha : nameB call = true) (hz : fix = .empty) (hz2 : 0 ≤ n ∧ n ≤ 400) :
    Calls Tryd.prog 8 #[cmV ⟨verb, call, n, fix⟩] w (CkP ⟨verb, call, n, fix⟩ w) := by
  subst hk
  subst hz
  have hf : fixV 2 = false := rfl
  have hm : numV 2 = true := rfl
  have HV := Lib.hid (fun (W : World) (hb : BxP verb call n .empty w W) => (verb_any verb W).mono fun e W2 h => (show e = .returned (.int .i64 2) ∧ BxP verb call n .empty w W2 ∧ _ from ⟨by rw [h.1, hv], hb.on h.2, (hb.on h.2).cells⟩))
  have tokA : True := trivial
  have HA := Lib.hid (fun (W : World) (hb : BxP verb call n .empty w W) => (Name_any call W h1).mono fun e W2 h => (show e = .returned (.bool true) ∧ BxP verb call n .empty w W2 ∧ _ from ⟨by rw [h.1, ha], hb.on h.2, (hb.on h.2).cells⟩))
  have HF := Lib.hid (fun (W : World) => (fix_any 2 W).mono fun e W2 h => (show e = .returned (.bool false) ∧ W = W2 from ⟨by rw [h.1, hf], h.2⟩))
  have HM := Lib.hid (fun (W : World) => (num_any 2 W).mono fun e W2 h => (show e = .returned (.bool true) ∧ W = W2 from ⟨by rw [h.1, hm], h.2⟩))
  have HR : Hid (chkC ⟨verb, call, n, .empty⟩ = 0) := Lib.hid (by unfold chkC; dsimp only; rw [hv, if_neg (by decide), if_neg (by rw [ha, hf]; rintro (h | ⟨h, _⟩) <;> cases h), if_neg (by rw [hm]; rintro (⟨_, h⟩ | ⟨h, _⟩) <;> first | cases h | exact h rfl), if_neg (by rw [show mostV 2 = 400 from rfl]; rintro ⟨_, h⟩; omega)])
  have bn : decide (n < 0) = false := decide_eq_false (by omega)
  have bm : decide ((400 : Int) < n) = false := decide_eq_false (by omega)
  clear hv h1 h2 ha hf hm hz2
  unfold CkP cmV
  go_enter Tryd.func8, Tryd.ntmps8
  go_wp2_with (first | (go_at_call 11; go_loud (refine (HV.out _ (by exact bx_self _ _ _ _ w)).mono ?_; rintro e w1 ⟨rfl, hb1, c11, c12, c13, l11, l12⟩)) | (go_at_call 16; go_loud (first | (have _t := tokA; refine (HA.out _ (by exact hb1)).mono ?_; rintro e w2 ⟨rfl, hb2, c21, c22, c23, l21, l22⟩; clear tokA) | (refine (HB.out _ (by exact hb2)).mono ?_; rintro e w3 ⟨rfl, hb3, c31, c32, c33, l31, l32⟩))) | (go_at_call 14; go_loud (refine (HF.out _).mono ?_; rintro e w4 ⟨rfl, rfl⟩)) | (go_at_call 12; go_loud (refine (HM.out _).mono ?_; rintro e w5 ⟨rfl, rfl⟩)))
  go_ret
  exact ⟨by rw [HR.out]; rfl, by first | exact hb3.below | exact hb2.below | exact hb1.below | exact hb2.below.alloc (by omega) _⟩

/-- Check, at any command. -/
theorem Check_any (c : Cm) (w : World) (h1 : c.call.size ≤ maxLen) (h2 : c.fix.size ≤ maxLen) : Calls Tryd.prog 8 #[cmV c] w (CkP c w) := by
  obtain ⟨verb, call, n, fix⟩ := c
  obtain ⟨v, hv⟩ : ∃ v, vIx verb = v := ⟨_, rfl⟩
  by_cases hn : v < 0
  · exact ck_v verb call fix n v w hv h1 h2 hn
  cases ha : nameB call with
  | false => exact ck_a verb call fix n v w hv h1 h2 hn ha
  | true =>
    cases hf : fixV v with
    | true =>
      cases hfx : nameB fix with
      | false => exact ck_b verb call fix n v w hv h1 h2 hn ha hf hfx
      | true =>
        by_cases hz : n = 0
        · exact ck_f0 verb call fix n v w hv h1 h2 hn ha hf hfx hz
        · exact ck_f3 verb call fix n v w hv h1 h2 hn ha hf hfx hz
    | false =>
      by_cases hz : fix = .empty
      · cases hm : numV v with
        | false =>
          by_cases hz2 : n = 0
          · exact ck_n0 verb call fix n v w hv h1 h2 hn ha hf hz hm hz2
          · exact ck_n3 verb call fix n v w hv h1 h2 hn ha hf hz hm hz2
        | true =>
          have := num_le hm
          have h3 : v = 0 ∨ v = 1 ∨ v = 2 := by omega
          by_cases hlo : n < 0
          · rcases h3 with h3 | h3 | h3
            · exact ck_0lo verb call fix n v w hv h1 h2 h3 ha hz hlo
            · exact ck_1lo verb call fix n v w hv h1 h2 h3 ha hz hlo
            · exact ck_2lo verb call fix n v w hv h1 h2 h3 ha hz hlo
          rcases h3 with h3 | h3 | h3
          · by_cases hhi : 60000 < n
            · exact ck_0hi verb call fix n v w hv h1 h2 h3 ha hz hhi
            · exact ck_0ok verb call fix n v w hv h1 h2 h3 ha hz ⟨by omega, by omega⟩
          · by_cases hhi : 4095 < n
            · exact ck_1hi verb call fix n v w hv h1 h2 h3 ha hz hhi
            · exact ck_1ok verb call fix n v w hv h1 h2 h3 ha hz ⟨by omega, by omega⟩
          · by_cases hhi : 400 < n
            · exact ck_2hi verb call fix n v w hv h1 h2 h3 ha hz hhi
            · exact ck_2ok verb call fix n v w hv h1 h2 h3 ha hz ⟨by omega, by omega⟩
      · exact ck_e3 verb call fix n v w hv h1 h2 hn ha hf hz
end Go.Proofs.YtdlifdmnfbjokaaDoor
