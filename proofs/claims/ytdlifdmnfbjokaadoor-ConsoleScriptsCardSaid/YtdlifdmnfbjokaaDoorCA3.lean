/- Package console: Print. -/
import Derived.Test.YtdlifdmnfbjokaaDoorCA2
import Derived.Test.YtdlifdmnfbjokaaDoorCP1
namespace Go.Proofs.YtdlifdmnfbjokaaDoor
open Go.RowKit
open Go.Lib hiding intOf

/-- What is known behind a call of Print's. -/
def BxC (v c : ByteArray) (n : Int) (f : ByteArray) (w W : World) : Prop :=
  BxP v c n f w W ∧ W.cell? ⟨w.heap.size, 0, none⟩ = some (.string v) ∧ W.cell? ⟨w.heap.size, 1, none⟩ = some (.string c) ∧ W.cell? ⟨w.heap.size, 2, none⟩ = some (.int .i64 n) ∧ W.cell? ⟨w.heap.size, 3, none⟩ = some (.string f)
theorem BxP.c {v c : ByteArray} {n : Int} {f : ByteArray} {w W : World} (h : BxP v c n f w W) : BxC v c n f w W := by
  obtain ⟨h1, h2, h3, _⟩ := h.cells
  refine ⟨h, ?_, h1, h2, h3⟩
  rw [Below.cell h (p := ⟨w.heap.size, 0, none⟩) (by show w.heap.size < w.heap.size + 1; omega), World.cell?_alloc_new]; rfl
def PrP (c : Cm) (w : World) : Ending → World → Prop := fun e w' => e = .returned (.tuple #[.string (printC c).1, .int .i64 (printC c).2]) ∧ Below w.heap.size w w'

set_option maxRecDepth 100000 in
set_option maxHeartbeats 4000000 in
theorem print_no (verb call fix : ByteArray) (n : Int) (w : World) (h1 : call.size ≤ maxLen) (h2 : fix.size ≤ maxLen) (hx : chkC ⟨verb, call, n, fix⟩ ≠ 0) :
    Calls Tryd.prog 5 #[cmV ⟨verb, call, n, fix⟩] w (PrP ⟨verb, call, n, fix⟩ w) := by
  have HR : Hid (printC ⟨verb, call, n, fix⟩ = (.empty, chkC ⟨verb, call, n, fix⟩)) := Lib.hid (by unfold printC; rw [if_neg hx])
  obtain ⟨k, hk⟩ : ∃ k, chkC ⟨verb, call, n, fix⟩ = k := ⟨_, rfl⟩
  rw [hk] at HR hx
  have HC := Lib.hid (fun (W : World) (hb : BxP verb call n fix w W) => (Check_any ⟨verb, call, n, fix⟩ W h1 h2).mono fun e W2 h => (show e = .returned (.int .i64 k) ∧ BxC verb call n fix w W2 from ⟨by rw [h.1, hk], (hb.on h.2).c⟩))
  have bz : decide (k = 0) = false := decide_eq_false hx
  have bz2 : (k != 0) = true := by simpa using hx
  have bz3 : (k == 0) = false := by simpa using hx
  unfold cmV at HC
  unfold PrP cmV
  clear hk hx h1 h2
  go_enter Tryd.func5, Tryd.ntmps5
  go_wp2_with (go_at_call 8; go_loud (refine (HC.out _ (by exact bx_self _ _ _ _ w)).mono ?_; rintro e w1 ⟨rfl, hb1, c10, c11, c12, c13⟩))
  go_ret2
  exact ⟨by rw [HR.out]; rfl, hb1.below⟩

set_option maxRecDepth 100000 in
set_option maxHeartbeats 4000000 in
theorem print_num (verb call fix : ByteArray) (n : Int) (v : Int) (w : World) (hv : vIx verb = v) (h1 : call.size ≤ maxLen) (h2 : fix.size ≤ maxLen) (he : Env w) (hx : chkC ⟨verb, call, n, fix⟩ = 0) (hm : numV v = true) :
    Calls Tryd.prog 5 #[cmV ⟨verb, call, n, fix⟩] w (PrP ⟨verb, call, n, fix⟩ w) := by
  have g := good_of hx
  have hn : 0 ≤ n ∧ n ≤ 60000 := by
    have a1 := g.n0 (by show numV (vIx verb) = true; rw [hv, hm])
    have a2 := most_le (vIx verb)
    dsimp only at a1
    omega
  have HR : Hid (printC ⟨verb, call, n, fix⟩ = (verb ++ sp ++ call ++ (sp ++ mk (itoa n)), 0)) := Lib.hid (by rw [Good.printC hx]; unfold printB headB tailB; dsimp only; rw [hv, if_pos hm])
  have HC := Lib.hid (fun (W : World) (hb : BxP verb call n fix w W) => (Check_any ⟨verb, call, n, fix⟩ W h1 h2).mono fun e W2 h => (show e = .returned (.int .i64 0) ∧ BxC verb call n fix w W2 from ⟨by rw [h.1, hx], (hb.on h.2).c⟩))
  have HV := Lib.hid (fun (W : World) (hb : BxP verb call n fix w W) => (verb_any verb W).mono fun e W2 h => (show e = .returned (.int .i64 v) ∧ BxC verb call n fix w W2 from ⟨by rw [h.1, hv], (hb.on h.2).c⟩))
  have HM := Lib.hid (fun (W : World) => (num_any v W).mono fun e W2 h => (show e = .returned (.bool true) ∧ W = W2 from ⟨by rw [h.1, hm], h.2⟩))
  have HI := Lib.hid (fun (W : World) (hb : BxP verb call n fix w W) => (Itoa_any n W (by omega) (by omega) (he.below hb.below)).mono fun e W2 h => (show e = .returned (.string (mk (itoa n))) ∧ BxC verb call n fix w W2 from ⟨h.1, (hb.on h.2).c⟩))
  have s1 : verb.size ≤ 7 := vbs_small _ (vIx_mem (good_of hx).v)
  have s2 : call.size ≤ 8 := (name_size (good_of hx).call).2
  have s3 : (mk (itoa n)).size ≤ 6 := by rw [size_mk]; exact itoa_len6 hn.1 (by omega)
  unfold cmV at HC
  unfold PrP cmV
  clear hx h1 h2 g hn hm hv he
  go_enter Tryd.func5, Tryd.ntmps5
  go_wp2_with (first | (go_at_call 8; go_loud (refine (HC.out _ (by exact bx_self _ _ _ _ w)).mono ?_; rintro e w1 ⟨rfl, hb1, c10, c11, c12, c13⟩)) | (go_at_call 11; go_loud (refine (HV.out _ (by exact hb1)).mono ?_; rintro e w2 ⟨rfl, hb2, c20, c21, c22, c23⟩)) | (go_at_call 12; go_loud (refine (HM.out _).mono ?_; rintro e w3 ⟨rfl, rfl⟩)) | (go_at_call 13; go_loud (refine (HI.out _ (by exact hb2)).mono ?_; rintro e w4 ⟨rfl, hb4, c40, c41, c42, c43⟩)))
  go_ret2
  exact ⟨by rw [HR.out]; rfl, hb4.below⟩

set_option maxRecDepth 100000 in
set_option maxHeartbeats 4000000 in
theorem print_fix (verb call fix : ByteArray) (n : Int) (v : Int) (w : World) (hv : vIx verb = v) (h1 : call.size ≤ maxLen) (h2 : fix.size ≤ maxLen) (hx : chkC ⟨verb, call, n, fix⟩ = 0) (hm : numV v = false) (hf : fixV v = true) :
    Calls Tryd.prog 5 #[cmV ⟨verb, call, n, fix⟩] w (PrP ⟨verb, call, n, fix⟩ w) := by
  have HR : Hid (printC ⟨verb, call, n, fix⟩ = (verb ++ sp ++ call ++ (sp ++ fix), 0)) := Lib.hid (by rw [Good.printC hx]; unfold printB headB tailB; dsimp only; rw [hv, hm, if_neg (by decide), if_pos hf])
  have HC := Lib.hid (fun (W : World) (hb : BxP verb call n fix w W) => (Check_any ⟨verb, call, n, fix⟩ W h1 h2).mono fun e W2 h => (show e = .returned (.int .i64 0) ∧ BxC verb call n fix w W2 from ⟨by rw [h.1, hx], (hb.on h.2).c⟩))
  have HV := Lib.hid (fun (W : World) (hb : BxP verb call n fix w W) => (verb_any verb W).mono fun e W2 h => (show e = .returned (.int .i64 v) ∧ BxC verb call n fix w W2 from ⟨by rw [h.1, hv], (hb.on h.2).c⟩))
  have HM := Lib.hid (fun (W : World) => (num_any v W).mono fun e W2 h => (show e = .returned (.bool false) ∧ W = W2 from ⟨by rw [h.1, hm], h.2⟩))
  have HF := Lib.hid (fun (W : World) => (fix_any v W).mono fun e W2 h => (show e = .returned (.bool true) ∧ W = W2 from ⟨by rw [h.1, hf], h.2⟩))
  have s1 : verb.size ≤ 7 := vbs_small _ (vIx_mem (good_of hx).v)
  have s2 : call.size ≤ 8 := (name_size (good_of hx).call).2
  have s3 : fix.size ≤ 8 := (name_size ((good_of hx).fix (by rw [← hv] at hf; exact hf))).2
  unfold cmV at HC
  unfold PrP cmV
  clear hx h1 h2 hm hf hv
  go_enter Tryd.func5, Tryd.ntmps5
  go_wp2_with (first | (go_at_call 8; go_loud (refine (HC.out _ (by exact bx_self _ _ _ _ w)).mono ?_; rintro e w1 ⟨rfl, hb1, c10, c11, c12, c13⟩)) | (go_at_call 11; go_loud (refine (HV.out _ (by exact hb1)).mono ?_; rintro e w2 ⟨rfl, hb2, c20, c21, c22, c23⟩)) | (go_at_call 12; go_loud (refine (HM.out _).mono ?_; rintro e w3 ⟨rfl, rfl⟩)) | (go_at_call 14; go_loud (refine (HF.out _).mono ?_; rintro e w4 ⟨rfl, rfl⟩)))
  go_ret2
  exact ⟨by rw [HR.out]; rfl, hb2.below⟩

set_option maxRecDepth 100000 in
set_option maxHeartbeats 4000000 in
theorem print_two (verb call fix : ByteArray) (n : Int) (v : Int) (w : World) (hv : vIx verb = v) (h1 : call.size ≤ maxLen) (h2 : fix.size ≤ maxLen) (hx : chkC ⟨verb, call, n, fix⟩ = 0) (hm : numV v = false) (hf : fixV v = false) :
    Calls Tryd.prog 5 #[cmV ⟨verb, call, n, fix⟩] w (PrP ⟨verb, call, n, fix⟩ w) := by
  have HR : Hid (printC ⟨verb, call, n, fix⟩ = (verb ++ sp ++ call, 0)) := Lib.hid (by rw [Good.printC hx]; unfold printB headB tailB; dsimp only; rw [hv, hm, hf, if_neg (by decide), if_neg (by decide), app_empty])
  have HC := Lib.hid (fun (W : World) (hb : BxP verb call n fix w W) => (Check_any ⟨verb, call, n, fix⟩ W h1 h2).mono fun e W2 h => (show e = .returned (.int .i64 0) ∧ BxC verb call n fix w W2 from ⟨by rw [h.1, hx], (hb.on h.2).c⟩))
  have HV := Lib.hid (fun (W : World) (hb : BxP verb call n fix w W) => (verb_any verb W).mono fun e W2 h => (show e = .returned (.int .i64 v) ∧ BxC verb call n fix w W2 from ⟨by rw [h.1, hv], (hb.on h.2).c⟩))
  have HM := Lib.hid (fun (W : World) => (num_any v W).mono fun e W2 h => (show e = .returned (.bool false) ∧ W = W2 from ⟨by rw [h.1, hm], h.2⟩))
  have HF := Lib.hid (fun (W : World) => (fix_any v W).mono fun e W2 h => (show e = .returned (.bool false) ∧ W = W2 from ⟨by rw [h.1, hf], h.2⟩))
  have s1 : verb.size ≤ 7 := vbs_small _ (vIx_mem (good_of hx).v)
  have s2 : call.size ≤ 8 := (name_size (good_of hx).call).2
  unfold cmV at HC
  unfold PrP cmV
  clear hx h1 h2 hm hf hv
  go_enter Tryd.func5, Tryd.ntmps5
  go_wp2_with (first | (go_at_call 8; go_loud (refine (HC.out _ (by exact bx_self _ _ _ _ w)).mono ?_; rintro e w1 ⟨rfl, hb1, c10, c11, c12, c13⟩)) | (go_at_call 11; go_loud (refine (HV.out _ (by exact hb1)).mono ?_; rintro e w2 ⟨rfl, hb2, c20, c21, c22, c23⟩)) | (go_at_call 12; go_loud (refine (HM.out _).mono ?_; rintro e w3 ⟨rfl, rfl⟩)) | (go_at_call 14; go_loud (refine (HF.out _).mono ?_; rintro e w4 ⟨rfl, rfl⟩)))
  go_ret2
  exact ⟨by rw [HR.out]; rfl, hb2.below⟩

/-- Print, at any command. -/
theorem Print_any (c : Cm) (w : World) (h1 : c.call.size ≤ maxLen) (h2 : c.fix.size ≤ maxLen) (he : Env w) : Calls Tryd.prog 5 #[cmV c] w (PrP c w) := by
  obtain ⟨verb, call, n, fix⟩ := c
  obtain ⟨v, hv⟩ : ∃ v, vIx verb = v := ⟨_, rfl⟩
  by_cases hx : chkC ⟨verb, call, n, fix⟩ = 0
  · cases hm : numV v with
    | true => exact print_num verb call fix n v w hv h1 h2 he hx hm
    | false =>
      cases hf : fixV v with
      | true => exact print_fix verb call fix n v w hv h1 h2 hx hm hf
      | false => exact print_two verb call fix n v w hv h1 h2 hx hm hf
  · exact print_no verb call fix n w h1 h2 hx
end Go.Proofs.YtdlifdmnfbjokaaDoor
