/- Package console: Parse, where a number is wanted. -/
import Derived.Test.YtdlifdmnfbjokaaDoorCA5
import Derived.Lib.QuietBelow
namespace Go.Proofs.YtdlifdmnfbjokaaDoor
open Go.RowKit
open Go.Lib hiding intOf

set_option maxRecDepth 100000 in
set_option maxHeartbeats 8000000 in
theorem parse_d (s a b x : ByteArray) (v : Int) (w : World) (hs : s.size ≤ 1100000) (he : Env w) (hl : partsB s = [a, b, x]) (hv : vIx a = v) (hn : ¬ v < 0) (hm : numV v = true) (hf : fixV v = false) (u : Int) (hat : atoiAll (bl x) = .ok u) (hu : ¬ u < 0) (hz : ¬ 6 < x.size) (hx : mk (itoa u) ≠ x) : Calls Tryd.prog 6 #[.string s] w (PaP (parseC s) w) := by
  have hxs : x.size ≤ s.size := parts_size (by rw [hl]; simp)
  have hsb : b.size ≤ maxLen := by
    have : b.size ≤ s.size := parts_size (by rw [hl]; simp)
    unfold maxLen; omega
  have HS0 := split_ps s w hs he
  rw [hl] at HS0
  have HS := Lib.hid (show Calls Tryd.prog 10 #[.string s, .string { data := #[32] }] ((w.alloc (.cells #[.string { data := #[] }, .string { data := #[] }, .int .i64 0, .string { data := #[] }] 23)).alloc (.cells #[.string { data := #[] }, .string { data := #[] }, .int .i64 0, .string { data := #[] }] 23)) fun e W => e = .returned (.slice (some ⟨w.heap.size + 2, 0, none⟩) 3 3) ∧ PsF [a, b, x] w W from HS0)
  have HV := Lib.hid (fun (W : World) (hb : PsP [a, b, x] w W) => (verb_any a W).mono fun e W2 h => (show e = .returned (.int .i64 v) ∧ PsF [a, b, x] w W2 from ⟨by rw [h.1, hv], (hb.on h.2).facts⟩))
  have HM := Lib.hid (fun (W : World) => (num_any v W).mono fun e W2 h => (show e = .returned (.bool true) ∧ W = W2 from ⟨by rw [h.1, hm], h.2⟩))
  have HF := Lib.hid (fun (W : World) => (fix_any v W).mono fun e W2 h => (show e = .returned (.bool false) ∧ W = W2 from ⟨by rw [h.1, hf], h.2⟩))
  have HA := Lib.hid (fun (W : World) (C : Nat) (hb : PcF [a, b, x] ⟨a, b, 0, .empty⟩ C w W) => (Atoi_all x W (by omega) (he.below hb.2.1)).mono fun e W2 h => (show (e = .returned (.tuple #[.int .i64 u, .nilIface])) ∧ PcF [a, b, x] ⟨a, b, 0, .empty⟩ C w W2 from ⟨atoi_ok hat h.1, hb.on h.2⟩))
  have HR0 : parseC s = (match numP x with | none => (cm0, 5) | some n => finC ⟨a, b, n, .empty⟩) := by
    unfold parseC; rw [hl]; unfold parseL
    rw [show pk [a, b, x] 0 = a from rfl, show pk [a, b, x] 1 = b from rfl, show pk [a, b, x] 2 = x from rfl, hv, if_neg (by unfold cntV; rw [hm, hf]; rintro (h | h) <;> first | exact hn h | exact h rfl), hm, if_pos rfl]
    rfl
  have HP : Hid (parseC s = (cm0, 5)) := Lib.hid (by rw [HR0, num_if hat, if_pos (.inr (.inr hx))])
  have HE := Lib.hid he
  have HI := Lib.hid (fun (W : World) (hb : Env W) => Itoa_any u W (atoiAll_bounds hat).1 (atoiAll_bounds hat).2 hb)
  have b0 : decide (v < 0) = false := decide_eq_false hn
  have u0 : decide (u < 0) = false := decide_eq_false hu
  have z6 : decide ((6 : Int) < (x.size : Int)) = false := decide_eq_false (by omega)
  have e6 : ((mk (itoa u)).toList == x.toList) = false := by rw [str_beq]; exact decide_eq_false hx
  clear HS0 hn hm hf hv he hs hl hsb hxs HR0 hat hu hz hx
  go_enter Tryd.func6, Tryd.ntmps6
  go_wp2_with (first
    | (go_at_call 10; go_loud (refine HS.out.mono ?_; rintro e w1 ⟨rfl, hp1, hz1, ⟨c10, c11, c12, c13⟩, ⟨d10, d11, d12, d13⟩, hfz1, hl1⟩; have k10 : w1.cell? ⟨w.heap.size + 2, 0, none⟩ = some (.string a) := hl1 0 (by simp); have k11 : w1.cell? ⟨w.heap.size + 2, 1, none⟩ = some (.string b) := hl1 1 (by simp); have k12 : w1.cell? ⟨w.heap.size + 2, 2, none⟩ = some (.string x) := hl1 2 (by simp); clear hl1 hfz1))
    | (go_at_call 11; go_loud (refine (HV.out _ (by exact hp1)).mono ?_; rintro e w2 ⟨rfl, hq⟩; obtain ⟨hp2, hz2, ⟨c20, c21, c22, c23⟩, ⟨d20, d21, d22, d23⟩, hfz2, hl2⟩ := id hq; have k20 : w2.cell? ⟨w.heap.size + 2, 0, none⟩ = some (.string a) := hl2 0 (by simp); have k21 : w2.cell? ⟨w.heap.size + 2, 1, none⟩ = some (.string b) := hl2 1 (by simp); have k22 : w2.cell? ⟨w.heap.size + 2, 2, none⟩ = some (.string x) := hl2 2 (by simp); clear hl2 hfz2))
    | (go_at_call 12; go_loud (refine (HM.out _).mono ?_; rintro e w3 ⟨rfl, rfl⟩))
    | (go_at_call 14; go_loud (refine (HF.out _).mono ?_; rintro e w4 ⟨rfl, rfl⟩)))
  have x1 : w.heap.size + 2 < w2.heap.size := by omega
  have x2 : (w.heap.size + 2 != w2.heap.size) = true := by simp; omega
  go_region_with (fail)
  all_goals refine ?same
  have q0 := PcF.start (a := a) (b := b) hq
  obtain ⟨V, hV⟩ : ∃ V, (w2.alloc (.cells #[.string a, .string b, .int .i64 0, .string { data := #[] }] 23)).drew = V := ⟨_, rfl⟩
  rw [hV] at q0 ⊢
  clear hV
  generalize w2.heap.size = C at *
  obtain ⟨⟨z0, z1⟩, zb, ⟨e00, e01, e02, e03⟩, ⟨f00, f01, f02, f03⟩, ⟨e10, e11, e12, e13⟩, ⟨e20, e21, e22, e23⟩, ⟨f20, f21, f22, f23⟩, el⟩ := id q0
  simp only [cm0] at e00 e01 e02 e03 e10 e11 e12 e13
  have g2 : V.cell? ⟨w.heap.size + 2, 2, none⟩ = some (.string x) := el 2 (by simp)
  clear el
  go_wp2_with (first
    | (go_at_call 12; go_loud (refine (HM.out _).mono ?_; rintro e w3 ⟨rfl, rfl⟩))
    | (go_at_call 14; go_loud (refine (HF.out _).mono ?_; rintro e w4 ⟨rfl, rfl⟩))
    | (go_at_call 15; go_loud (refine (HA.out _ _ (by exact q0)).mono ?_; rintro e w6 ⟨rfl, q6⟩; obtain ⟨⟨z0, z1⟩, zb, ⟨e00, e01, e02, e03⟩, ⟨f00, f01, f02, f03⟩, ⟨e10, e11, e12, e13⟩, ⟨e20, e21, e22, e23⟩, ⟨f20, f21, f22, f23⟩, el⟩ := id q6; simp only [cm0] at e00 e01 e02 e03 e10 e11 e12 e13; have g6 : w6.cell? ⟨w.heap.size + 2, 2, none⟩ = some (.string x) := el 2 (by simp); clear el)))
  have hE6 : Env w6 := HE.out.below zb
  have kk2 := cell_regrown g6
  have cA : ∀ d os, Calls Tryd.prog 13 #[.int .i64 u] (Sort.grow (redrawn w6 d) os) fun e w'' => e = .returned (.string (mk (itoa u))) ∧ ∃ p : Regrown, w'' = Sort.grow (redrawn w6 p.d) p.os := fun d os =>
    Calls.regrown_of (HI.out _ (hE6.below (below_regrown w6 d os)))
  refine wp_region_quiet_below (by kernel_rfl) (by kernel_rfl) ?_
  repeat (quiet_step (exact cA _ _))
  refine wpQuiet_nil ?_
  intro _ hw'
  obtain ⟨⟨dq, osq⟩, hw''⟩ := hw'
  subst hw''
  have q7 := q6.on (below_regrown w6 dq osq)
  obtain ⟨w7, hw7⟩ : ∃ w7, Sort.grow (redrawn w6 dq) osq = w7 := ⟨_, rfl⟩
  rw [hw7] at q7 ⊢
  clear hw7 cA kk2
  obtain ⟨⟨z0, z1⟩, zb, ⟨e00, e01, e02, e03⟩, ⟨f00, f01, f02, f03⟩, ⟨e10, e11, e12, e13⟩, ⟨e20, e21, e22, e23⟩, ⟨f20, f21, f22, f23⟩, el⟩ := id q7
  simp only [cm0] at e00 e01 e02 e03 e10 e11 e12 e13
  clear el
  go_wp2_with fail
  rw [HP.out]
  obtain ⟨y1, y2⟩ := out_ps (c := cm0) (w := w) (W := w7) ⟨e00, e01, e02, e03⟩ (Nat.le_refl _) zb cm0
  exact ret_ps y1 y2 rfl rfl rfl

set_option maxRecDepth 100000 in
set_option maxHeartbeats 8000000 in
theorem parse_e (s a b x : ByteArray) (v : Int) (w : World) (hs : s.size ≤ 1100000) (he : Env w) (hl : partsB s = [a, b, x]) (hv : vIx a = v) (hn : ¬ v < 0) (hm : numV v = true) (hf : fixV v = false) (u : Int) (hat : atoiAll (bl x) = .ok u) (hu : ¬ u < 0) (hz : ¬ 6 < x.size) (hx : mk (itoa u) = x) : Calls Tryd.prog 6 #[.string s] w (PaP (parseC s) w) := by
  have hxs : x.size ≤ s.size := parts_size (by rw [hl]; simp)
  have hsb : b.size ≤ maxLen := by
    have : b.size ≤ s.size := parts_size (by rw [hl]; simp)
    unfold maxLen; omega
  have HS0 := split_ps s w hs he
  rw [hl] at HS0
  have HS := Lib.hid (show Calls Tryd.prog 10 #[.string s, .string { data := #[32] }] ((w.alloc (.cells #[.string { data := #[] }, .string { data := #[] }, .int .i64 0, .string { data := #[] }] 23)).alloc (.cells #[.string { data := #[] }, .string { data := #[] }, .int .i64 0, .string { data := #[] }] 23)) fun e W => e = .returned (.slice (some ⟨w.heap.size + 2, 0, none⟩) 3 3) ∧ PsF [a, b, x] w W from HS0)
  have HV := Lib.hid (fun (W : World) (hb : PsP [a, b, x] w W) => (verb_any a W).mono fun e W2 h => (show e = .returned (.int .i64 v) ∧ PsF [a, b, x] w W2 from ⟨by rw [h.1, hv], (hb.on h.2).facts⟩))
  have HM := Lib.hid (fun (W : World) => (num_any v W).mono fun e W2 h => (show e = .returned (.bool true) ∧ W = W2 from ⟨by rw [h.1, hm], h.2⟩))
  have HF := Lib.hid (fun (W : World) => (fix_any v W).mono fun e W2 h => (show e = .returned (.bool false) ∧ W = W2 from ⟨by rw [h.1, hf], h.2⟩))
  have HA := Lib.hid (fun (W : World) (C : Nat) (hb : PcF [a, b, x] ⟨a, b, 0, .empty⟩ C w W) => (Atoi_all x W (by omega) (he.below hb.2.1)).mono fun e W2 h => (show (e = .returned (.tuple #[.int .i64 u, .nilIface])) ∧ PcF [a, b, x] ⟨a, b, 0, .empty⟩ C w W2 from ⟨atoi_ok hat h.1, hb.on h.2⟩))
  have HR0 : parseC s = (match numP x with | none => (cm0, 5) | some n => finC ⟨a, b, n, .empty⟩) := by
    unfold parseC; rw [hl]; unfold parseL
    rw [show pk [a, b, x] 0 = a from rfl, show pk [a, b, x] 1 = b from rfl, show pk [a, b, x] 2 = x from rfl, hv, if_neg (by unfold cntV; rw [hm, hf]; rintro (h | h) <;> first | exact hn h | exact h rfl), hm, if_pos rfl]
    rfl
  obtain ⟨k, hk⟩ : ∃ k, chkC ⟨a, b, u, .empty⟩ = k := ⟨_, rfl⟩
  have HP : Hid (((k != 0) = false → parseC s = (⟨a, b, u, .empty⟩, 0)) ∧ ((k != 0) = true → parseC s = (cm0, k))) := Lib.hid (by
    rw [HR0, num_if hat, if_neg (by rintro (h | h | h) <;> first | exact hu h | exact hz h | exact h hx)]
    show ((k != 0) = false → finC ⟨a, b, u, .empty⟩ = _) ∧ ((k != 0) = true → finC ⟨a, b, u, .empty⟩ = _)
    unfold finC; rw [hk]; exact ⟨fun h => if_pos (by simpa using h), fun h => if_neg (by simpa using h)⟩)
  have HC := Lib.hid (fun (W : World) (C : Nat) (hb : PcF [a, b, x] ⟨a, b, u, .empty⟩ C w W) => (Check_any ⟨a, b, u, .empty⟩ W hsb (Nat.zero_le _)).mono fun e W2 h => (show e = .returned (.int .i64 k) ∧ PcF [a, b, x] ⟨a, b, u, .empty⟩ C w W2 from ⟨by rw [h.1, hk], hb.on h.2⟩))
  unfold cmV at HC
  have HE := Lib.hid he
  have HI := Lib.hid (fun (W : World) (hb : Env W) => Itoa_any u W (atoiAll_bounds hat).1 (atoiAll_bounds hat).2 hb)
  have b0 : decide (v < 0) = false := decide_eq_false hn
  have u0 : decide (u < 0) = false := decide_eq_false hu
  have z6 : decide ((6 : Int) < (x.size : Int)) = false := decide_eq_false (by omega)
  have e6 : ((mk (itoa u)).toList == x.toList) = true := by rw [str_beq]; exact decide_eq_true hx
  clear HS0 hn hm hf hv he hs hl hsb hxs HR0 hat hu hz hx hk
  go_enter Tryd.func6, Tryd.ntmps6
  go_wp2_with (first
    | (go_at_call 10; go_loud (refine HS.out.mono ?_; rintro e w1 ⟨rfl, hp1, hz1, ⟨c10, c11, c12, c13⟩, ⟨d10, d11, d12, d13⟩, hfz1, hl1⟩; have k10 : w1.cell? ⟨w.heap.size + 2, 0, none⟩ = some (.string a) := hl1 0 (by simp); have k11 : w1.cell? ⟨w.heap.size + 2, 1, none⟩ = some (.string b) := hl1 1 (by simp); have k12 : w1.cell? ⟨w.heap.size + 2, 2, none⟩ = some (.string x) := hl1 2 (by simp); clear hl1 hfz1))
    | (go_at_call 11; go_loud (refine (HV.out _ (by exact hp1)).mono ?_; rintro e w2 ⟨rfl, hq⟩; obtain ⟨hp2, hz2, ⟨c20, c21, c22, c23⟩, ⟨d20, d21, d22, d23⟩, hfz2, hl2⟩ := id hq; have k20 : w2.cell? ⟨w.heap.size + 2, 0, none⟩ = some (.string a) := hl2 0 (by simp); have k21 : w2.cell? ⟨w.heap.size + 2, 1, none⟩ = some (.string b) := hl2 1 (by simp); have k22 : w2.cell? ⟨w.heap.size + 2, 2, none⟩ = some (.string x) := hl2 2 (by simp); clear hl2 hfz2))
    | (go_at_call 12; go_loud (refine (HM.out _).mono ?_; rintro e w3 ⟨rfl, rfl⟩))
    | (go_at_call 14; go_loud (refine (HF.out _).mono ?_; rintro e w4 ⟨rfl, rfl⟩)))
  have x1 : w.heap.size + 2 < w2.heap.size := by omega
  have x2 : (w.heap.size + 2 != w2.heap.size) = true := by simp; omega
  go_region_with (fail)
  all_goals refine ?same
  have q0 := PcF.start (a := a) (b := b) hq
  obtain ⟨V, hV⟩ : ∃ V, (w2.alloc (.cells #[.string a, .string b, .int .i64 0, .string { data := #[] }] 23)).drew = V := ⟨_, rfl⟩
  rw [hV] at q0 ⊢
  clear hV
  generalize w2.heap.size = C at *
  obtain ⟨⟨z0, z1⟩, zb, ⟨e00, e01, e02, e03⟩, ⟨f00, f01, f02, f03⟩, ⟨e10, e11, e12, e13⟩, ⟨e20, e21, e22, e23⟩, ⟨f20, f21, f22, f23⟩, el⟩ := id q0
  simp only [cm0] at e00 e01 e02 e03 e10 e11 e12 e13
  have g2 : V.cell? ⟨w.heap.size + 2, 2, none⟩ = some (.string x) := el 2 (by simp)
  clear el
  go_wp2_with (first
    | (go_at_call 12; go_loud (refine (HM.out _).mono ?_; rintro e w3 ⟨rfl, rfl⟩))
    | (go_at_call 14; go_loud (refine (HF.out _).mono ?_; rintro e w4 ⟨rfl, rfl⟩))
    | (go_at_call 15; go_loud (refine (HA.out _ _ (by exact q0)).mono ?_; rintro e w6 ⟨rfl, q6⟩; obtain ⟨⟨z0, z1⟩, zb, ⟨e00, e01, e02, e03⟩, ⟨f00, f01, f02, f03⟩, ⟨e10, e11, e12, e13⟩, ⟨e20, e21, e22, e23⟩, ⟨f20, f21, f22, f23⟩, el⟩ := id q6; simp only [cm0] at e00 e01 e02 e03 e10 e11 e12 e13; have g6 : w6.cell? ⟨w.heap.size + 2, 2, none⟩ = some (.string x) := el 2 (by simp); clear el)))
  have hE6 : Env w6 := HE.out.below zb
  have kk2 := cell_regrown g6
  have cA : ∀ d os, Calls Tryd.prog 13 #[.int .i64 u] (Sort.grow (redrawn w6 d) os) fun e w'' => e = .returned (.string (mk (itoa u))) ∧ ∃ p : Regrown, w'' = Sort.grow (redrawn w6 p.d) p.os := fun d os =>
    Calls.regrown_of (HI.out _ (hE6.below (below_regrown w6 d os)))
  refine wp_region_quiet_below (by kernel_rfl) (by kernel_rfl) ?_
  repeat (quiet_step (exact cA _ _))
  refine wpQuiet_nil ?_
  intro _ hw'
  obtain ⟨⟨dq, osq⟩, hw''⟩ := hw'
  subst hw''
  have q7 := q6.on (below_regrown w6 dq osq)
  obtain ⟨w7, hw7⟩ : ∃ w7, Sort.grow (redrawn w6 dq) osq = w7 := ⟨_, rfl⟩
  rw [hw7] at q7 ⊢
  clear hw7 cA kk2
  obtain ⟨⟨z0, z1⟩, zb, ⟨e00, e01, e02, e03⟩, ⟨f00, f01, f02, f03⟩, ⟨e10, e11, e12, e13⟩, ⟨e20, e21, e22, e23⟩, ⟨f20, f21, f22, f23⟩, el⟩ := id q7
  simp only [cm0] at e00 e01 e02 e03 e10 e11 e12 e13
  clear el
  go_wp2_with ((go_at_call 8; go_loud (refine (HC.out _ _ (by exact q7.setN)).mono ?_; rintro e w5 ⟨rfl, q1⟩; obtain ⟨⟨z0, z1⟩, zb, ⟨e00, e01, e02, e03⟩, ⟨f00, f01, f02, f03⟩, ⟨e10, e11, e12, e13⟩, ⟨e20, e21, e22, e23⟩, ⟨f20, f21, f22, f23⟩, el⟩ := id q1; simp only [cm0] at e00 e01 e02 e03 e10 e11 e12 e13)))
  · rw [HP.out.2 (by assumption)]
    obtain ⟨y1, y2⟩ := out_ps (c := cm0) (w := w) (W := w5) ⟨e00, e01, e02, e03⟩ (Nat.le_refl _) zb cm0
    exact ret_ps y1 y2 rfl rfl rfl
  · rw [HP.out.1 (by assumption)]
    obtain ⟨y1, y2⟩ := out_ps (c := cm0) (w := w) (W := w5) ⟨e00, e01, e02, e03⟩ (Nat.le_refl _) zb ⟨a, b, u, .empty⟩
    exact ret_ps y1 y2 rfl rfl rfl

end Go.Proofs.YtdlifdmnfbjokaaDoor
