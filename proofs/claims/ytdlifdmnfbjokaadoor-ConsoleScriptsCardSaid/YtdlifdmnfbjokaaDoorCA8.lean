/- Package console: Parse, where a number is wanted. -/
import Derived.Test.YtdlifdmnfbjokaaDoorCA5
namespace Go.Proofs.YtdlifdmnfbjokaaDoor
open Go.RowKit
open Go.Lib hiding intOf

set_option maxRecDepth 100000 in
set_option maxHeartbeats 8000000 in
theorem parse_a (s a b x : ByteArray) (v : Int) (w : World) (hs : s.size ≤ 1100000) (he : Env w) (hl : partsB s = [a, b, x]) (hv : vIx a = v) (hn : ¬ v < 0) (hm : numV v = true) (hf : fixV v = false) (hat : ∀ u, atoiAll (bl x) ≠ .ok u) : Calls Tryd.prog 6 #[.string s] w (PaP (parseC s) w) := by
  have hxs : x.size ≤ s.size := parts_size (by rw [hl]; simp)
  have hsb : b.size ≤ maxLen := by
    have : b.size ≤ s.size := parts_size (by rw [hl]; simp)
    unfold maxLen; omega
  have HS0 := split_ps s w hs he
  rw [hl] at HS0
  have HS := Lib.hid (show Calls Tryd.prog 10 #[.string s, .string { data := #[32] }] ((w.alloc (.cells #[.string { data := #[] }, .string { data := #[] }, .int .i64 0, .string { data := #[] }] 23)).alloc (.cells #[.string { data := #[] }, .string { data := #[] }, .int .i64 0, .string { data := #[] }] 23)) fun e W => e = .returned (.slice (some ⟨w.heap.size + 2, 0, none⟩) 3 3) ∧ PsF [a, b, x] w W from HS0)
  have HV := Lib.hid (fun (W : World) (hb : PsP [a, b, x] w W) => (verb_any a W).mono fun e W2 h => (show e = .returned (.int .i64 v) ∧ PsF [a, b, x] w W2 from ⟨by rw [h.1, hv], (hb.on h.2).facts⟩))
  have HM := Lib.hid (fun (W : World) => (num_any v W).mono fun e W2 h => (show e = .returned (.bool true) ∧ W = W2 from ⟨by rw [h.1, hm], h.2⟩))
  have HF := Lib.hid (fun (W : World) => (fix_any v W).mono fun e W2 h => (show e = .returned (.bool false) ∧ W = W2 from ⟨by rw [h.1, hf], h.2⟩))
  have HA := Lib.hid (fun (W : World) (C : Nat) (hb : PcF [a, b, x] ⟨a, b, 0, .empty⟩ C w W) => (Atoi_all x W (by omega) (he.below hb.2.1)).mono fun e W2 h => (show (∃ u N t, e = .returned (.tuple #[.int .i64 u, .iface t (.pointer (some ⟨N, 0, none⟩))])) ∧ PcF [a, b, x] ⟨a, b, 0, .empty⟩ C w W2 from ⟨atoi_no hat h.1, hb.on h.2⟩))
  have HR0 : parseC s = (match numP x with | none => (cm0, 5) | some n => finC ⟨a, b, n, .empty⟩) := by
    unfold parseC; rw [hl]; unfold parseL
    rw [show pk [a, b, x] 0 = a from rfl, show pk [a, b, x] 1 = b from rfl, show pk [a, b, x] 2 = x from rfl, hv, if_neg (by unfold cntV; rw [hm, hf]; rintro (h | h) <;> first | exact hn h | exact h rfl), hm, if_pos rfl]
    rfl
  have HP : Hid (parseC s = (cm0, 5)) := Lib.hid (by rw [HR0, num_no hat])
  have b0 : decide (v < 0) = false := decide_eq_false hn
  clear HS0 hn hm hf hv he hs hl hsb hxs HR0 hat
  go_enter Tryd.func6, Tryd.ntmps6
  go_wp2_with (first
    | (go_at_call 10; go_loud (refine HS.out.mono ?_; rintro e w1 ⟨rfl, hp1, hz1, ⟨c10, c11, c12, c13⟩, ⟨d10, d11, d12, d13⟩, hfz1, hl1⟩; have k10 : w1.cell? ⟨w.heap.size + 2, 0, none⟩ = some (.string a) := hl1 0 (by simp); have k11 : w1.cell? ⟨w.heap.size + 2, 1, none⟩ = some (.string b) := hl1 1 (by simp); have k12 : w1.cell? ⟨w.heap.size + 2, 2, none⟩ = some (.string x) := hl1 2 (by simp); clear hl1 hfz1))
    | (go_at_call 11; go_loud (refine (HV.out _ (by exact hp1)).mono ?_; rintro e w2 ⟨rfl, hq⟩; obtain ⟨hp2, hz2, ⟨c20, c21, c22, c23⟩, ⟨d20, d21, d22, d23⟩, hfz2, hl2⟩ := id hq; have k20 : w2.cell? ⟨w.heap.size + 2, 0, none⟩ = some (.string a) := hl2 0 (by simp); have k21 : w2.cell? ⟨w.heap.size + 2, 1, none⟩ = some (.string b) := hl2 1 (by simp); have k22 : w2.cell? ⟨w.heap.size + 2, 2, none⟩ = some (.string x) := hl2 2 (by simp); clear hl2 hfz2))
    | (go_at_call 12; go_loud (refine (HM.out _).mono ?_; rintro e w3 ⟨rfl, rfl⟩))
    | (go_at_call 14; go_loud (refine (HF.out _).mono ?_; rintro e w4 ⟨rfl, rfl⟩)))
  have x1 : w.heap.size + 2 < w2.heap.size := by omega
  have x2 : (w.heap.size + 2 != w2.heap.size) = true := by simp; omega
  go_region_with (fail)
  all_goals refine ?same
  have q0 := PcF.start (a := a) (b := b) hq
  obtain ⟨V, hV⟩ : ∃ V, (w2.alloc (.cells #[.string a, .string b, .int .i64 0, .string { data := #[] }] 23)).drew = V := ⟨_, rfl⟩
  rw [hV] at q0 ⊢
  clear hV
  generalize w2.heap.size = C at *
  obtain ⟨⟨z0, z1⟩, zb, ⟨e00, e01, e02, e03⟩, ⟨f00, f01, f02, f03⟩, ⟨e10, e11, e12, e13⟩, ⟨e20, e21, e22, e23⟩, ⟨f20, f21, f22, f23⟩, el⟩ := id q0
  simp only [cm0] at e00 e01 e02 e03 e10 e11 e12 e13
  have g2 : V.cell? ⟨w.heap.size + 2, 2, none⟩ = some (.string x) := el 2 (by simp)
  clear el
  go_wp2_with (first
    | (go_at_call 12; go_loud (refine (HM.out _).mono ?_; rintro e w3 ⟨rfl, rfl⟩))
    | (go_at_call 14; go_loud (refine (HF.out _).mono ?_; rintro e w4 ⟨rfl, rfl⟩))
    | (go_at_call 15; go_loud (refine (HA.out _ _ (by exact q0)).mono ?_; rintro e w6 ⟨⟨u, N, t, rfl⟩, q6⟩; obtain ⟨⟨z0, z1⟩, zb, ⟨e00, e01, e02, e03⟩, ⟨f00, f01, f02, f03⟩, ⟨e10, e11, e12, e13⟩, ⟨e20, e21, e22, e23⟩, ⟨f20, f21, f22, f23⟩, el⟩ := id q6; simp only [cm0] at e00 e01 e02 e03 e10 e11 e12 e13; have g6 : w6.cell? ⟨w.heap.size + 2, 2, none⟩ = some (.string x) := el 2 (by simp); clear el)))
  go_quiet (fail)
  go_wp2_with fail
  rw [HP.out]
  obtain ⟨y1, y2⟩ := out_ps (c := cm0) (w := w) (W := w6.drewN nq) ⟨e00, e01, e02, e03⟩ (Nat.le_refl _) (below_drewN zb nq) cm0
  exact ret_ps y1 y2 rfl rfl rfl

set_option maxRecDepth 100000 in
set_option maxHeartbeats 8000000 in
theorem parse_b (s a b x : ByteArray) (v : Int) (w : World) (hs : s.size ≤ 1100000) (he : Env w) (hl : partsB s = [a, b, x]) (hv : vIx a = v) (hn : ¬ v < 0) (hm : numV v = true) (hf : fixV v = false) (u : Int) (hat : atoiAll (bl x) = .ok u) (hu : u < 0) : Calls Tryd.prog 6 #[.string s] w (PaP (parseC s) w) := by
  have hxs : x.size ≤ s.size := parts_size (by rw [hl]; simp)
  have hsb : b.size ≤ maxLen := by
    have : b.size ≤ s.size := parts_size (by rw [hl]; simp)
    unfold maxLen; omega
  have HS0 := split_ps s w hs he
  rw [hl] at HS0
  have HS := Lib.hid (show Calls Tryd.prog 10 #[.string s, .string { data := #[32] }] ((w.alloc (.cells #[.string { data := #[] }, .string { data := #[] }, .int .i64 0, .string { data := #[] }] 23)).alloc (.cells #[.string { data := #[] }, .string { data := #[] }, .int .i64 0, .string { data := #[] }] 23)) fun e W => e = .returned (.slice (some ⟨w.heap.size + 2, 0, none⟩) 3 3) ∧ PsF [a, b, x] w W from HS0)
  have HV := Lib.hid (fun (W : World) (hb : PsP [a, b, x] w W) => (verb_any a W).mono fun e W2 h => (show e = .returned (.int .i64 v) ∧ PsF [a, b, x] w W2 from ⟨by rw [h.1, hv], (hb.on h.2).facts⟩))
  have HM := Lib.hid (fun (W : World) => (num_any v W).mono fun e W2 h => (show e = .returned (.bool true) ∧ W = W2 from ⟨by rw [h.1, hm], h.2⟩))
  have HF := Lib.hid (fun (W : World) => (fix_any v W).mono fun e W2 h => (show e = .returned (.bool false) ∧ W = W2 from ⟨by rw [h.1, hf], h.2⟩))
  have HA := Lib.hid (fun (W : World) (C : Nat) (hb : PcF [a, b, x] ⟨a, b, 0, .empty⟩ C w W) => (Atoi_all x W (by omega) (he.below hb.2.1)).mono fun e W2 h => (show (e = .returned (.tuple #[.int .i64 u, .nilIface])) ∧ PcF [a, b, x] ⟨a, b, 0, .empty⟩ C w W2 from ⟨atoi_ok hat h.1, hb.on h.2⟩))
  have HR0 : parseC s = (match numP x with | none => (cm0, 5) | some n => finC ⟨a, b, n, .empty⟩) := by
    unfold parseC; rw [hl]; unfold parseL
    rw [show pk [a, b, x] 0 = a from rfl, show pk [a, b, x] 1 = b from rfl, show pk [a, b, x] 2 = x from rfl, hv, if_neg (by unfold cntV; rw [hm, hf]; rintro (h | h) <;> first | exact hn h | exact h rfl), hm, if_pos rfl]
    rfl
  have HP : Hid (parseC s = (cm0, 5)) := Lib.hid (by rw [HR0, num_if hat, if_pos (.inl hu)])
  have b0 : decide (v < 0) = false := decide_eq_false hn
  have u0 : decide (u < 0) = true := decide_eq_true hu
  clear HS0 hn hm hf hv he hs hl hsb hxs HR0 hat hu
  go_enter Tryd.func6, Tryd.ntmps6
  go_wp2_with (first
    | (go_at_call 10; go_loud (refine HS.out.mono ?_; rintro e w1 ⟨rfl, hp1, hz1, ⟨c10, c11, c12, c13⟩, ⟨d10, d11, d12, d13⟩, hfz1, hl1⟩; have k10 : w1.cell? ⟨w.heap.size + 2, 0, none⟩ = some (.string a) := hl1 0 (by simp); have k11 : w1.cell? ⟨w.heap.size + 2, 1, none⟩ = some (.string b) := hl1 1 (by simp); have k12 : w1.cell? ⟨w.heap.size + 2, 2, none⟩ = some (.string x) := hl1 2 (by simp); clear hl1 hfz1))
    | (go_at_call 11; go_loud (refine (HV.out _ (by exact hp1)).mono ?_; rintro e w2 ⟨rfl, hq⟩; obtain ⟨hp2, hz2, ⟨c20, c21, c22, c23⟩, ⟨d20, d21, d22, d23⟩, hfz2, hl2⟩ := id hq; have k20 : w2.cell? ⟨w.heap.size + 2, 0, none⟩ = some (.string a) := hl2 0 (by simp); have k21 : w2.cell? ⟨w.heap.size + 2, 1, none⟩ = some (.string b) := hl2 1 (by simp); have k22 : w2.cell? ⟨w.heap.size + 2, 2, none⟩ = some (.string x) := hl2 2 (by simp); clear hl2 hfz2))
    | (go_at_call 12; go_loud (refine (HM.out _).mono ?_; rintro e w3 ⟨rfl, rfl⟩))
    | (go_at_call 14; go_loud (refine (HF.out _).mono ?_; rintro e w4 ⟨rfl, rfl⟩)))
  have x1 : w.heap.size + 2 < w2.heap.size := by omega
  have x2 : (w.heap.size + 2 != w2.heap.size) = true := by simp; omega
  go_region_with (fail)
  all_goals refine ?same
  have q0 := PcF.start (a := a) (b := b) hq
  obtain ⟨V, hV⟩ : ∃ V, (w2.alloc (.cells #[.string a, .string b, .int .i64 0, .string { data := #[] }] 23)).drew = V := ⟨_, rfl⟩
  rw [hV] at q0 ⊢
  clear hV
  generalize w2.heap.size = C at *
  obtain ⟨⟨z0, z1⟩, zb, ⟨e00, e01, e02, e03⟩, ⟨f00, f01, f02, f03⟩, ⟨e10, e11, e12, e13⟩, ⟨e20, e21, e22, e23⟩, ⟨f20, f21, f22, f23⟩, el⟩ := id q0
  simp only [cm0] at e00 e01 e02 e03 e10 e11 e12 e13
  have g2 : V.cell? ⟨w.heap.size + 2, 2, none⟩ = some (.string x) := el 2 (by simp)
  clear el
  go_wp2_with (first
    | (go_at_call 12; go_loud (refine (HM.out _).mono ?_; rintro e w3 ⟨rfl, rfl⟩))
    | (go_at_call 14; go_loud (refine (HF.out _).mono ?_; rintro e w4 ⟨rfl, rfl⟩))
    | (go_at_call 15; go_loud (refine (HA.out _ _ (by exact q0)).mono ?_; rintro e w6 ⟨rfl, q6⟩; obtain ⟨⟨z0, z1⟩, zb, ⟨e00, e01, e02, e03⟩, ⟨f00, f01, f02, f03⟩, ⟨e10, e11, e12, e13⟩, ⟨e20, e21, e22, e23⟩, ⟨f20, f21, f22, f23⟩, el⟩ := id q6; simp only [cm0] at e00 e01 e02 e03 e10 e11 e12 e13; have g6 : w6.cell? ⟨w.heap.size + 2, 2, none⟩ = some (.string x) := el 2 (by simp); clear el)))
  go_quiet (fail)
  go_wp2_with fail
  rw [HP.out]
  obtain ⟨y1, y2⟩ := out_ps (c := cm0) (w := w) (W := w6.drewN nq) ⟨e00, e01, e02, e03⟩ (Nat.le_refl _) (below_drewN zb nq) cm0
  exact ret_ps y1 y2 rfl rfl rfl

set_option maxRecDepth 100000 in
set_option maxHeartbeats 8000000 in
theorem parse_c (s a b x : ByteArray) (v : Int) (w : World) (hs : s.size ≤ 1100000) (he : Env w) (hl : partsB s = [a, b, x]) (hv : vIx a = v) (hn : ¬ v < 0) (hm : numV v = true) (hf : fixV v = false) (u : Int) (hat : atoiAll (bl x) = .ok u) (hu : ¬ u < 0) (hz : 6 < x.size) : Calls Tryd.prog 6 #[.string s] w (PaP (parseC s) w) := by
  have hxs : x.size ≤ s.size := parts_size (by rw [hl]; simp)
  have hsb : b.size ≤ maxLen := by
    have : b.size ≤ s.size := parts_size (by rw [hl]; simp)
    unfold maxLen; omega
  have HS0 := split_ps s w hs he
  rw [hl] at HS0
  have HS := Lib.hid (show Calls Tryd.prog 10 #[.string s, .string { data := #[32] }] ((w.alloc (.cells #[.string { data := #[] }, .string { data := #[] }, .int .i64 0, .string { data := #[] }] 23)).alloc (.cells #[.string { data := #[] }, .string { data := #[] }, .int .i64 0, .string { data := #[] }] 23)) fun e W => e = .returned (.slice (some ⟨w.heap.size + 2, 0, none⟩) 3 3) ∧ PsF [a, b, x] w W from HS0)
  have HV := Lib.hid (fun (W : World) (hb : PsP [a, b, x] w W) => (verb_any a W).mono fun e W2 h => (show e = .returned (.int .i64 v) ∧ PsF [a, b, x] w W2 from ⟨by rw [h.1, hv], (hb.on h.2).facts⟩))
  have HM := Lib.hid (fun (W : World) => (num_any v W).mono fun e W2 h => (show e = .returned (.bool true) ∧ W = W2 from ⟨by rw [h.1, hm], h.2⟩))
  have HF := Lib.hid (fun (W : World) => (fix_any v W).mono fun e W2 h => (show e = .returned (.bool false) ∧ W = W2 from ⟨by rw [h.1, hf], h.2⟩))
  have HA := Lib.hid (fun (W : World) (C : Nat) (hb : PcF [a, b, x] ⟨a, b, 0, .empty⟩ C w W) => (Atoi_all x W (by omega) (he.below hb.2.1)).mono fun e W2 h => (show (e = .returned (.tuple #[.int .i64 u, .nilIface])) ∧ PcF [a, b, x] ⟨a, b, 0, .empty⟩ C w W2 from ⟨atoi_ok hat h.1, hb.on h.2⟩))
  have HR0 : parseC s = (match numP x with | none => (cm0, 5) | some n => finC ⟨a, b, n, .empty⟩) := by
    unfold parseC; rw [hl]; unfold parseL
    rw [show pk [a, b, x] 0 = a from rfl, show pk [a, b, x] 1 = b from rfl, show pk [a, b, x] 2 = x from rfl, hv, if_neg (by unfold cntV; rw [hm, hf]; rintro (h | h) <;> first | exact hn h | exact h rfl), hm, if_pos rfl]
    rfl
  have HP : Hid (parseC s = (cm0, 5)) := Lib.hid (by rw [HR0, num_if hat, if_pos (.inr (.inl hz))])
  have b0 : decide (v < 0) = false := decide_eq_false hn
  have u0 : decide (u < 0) = false := decide_eq_false hu
  have z6 : decide ((6 : Int) < (x.size : Int)) = true := decide_eq_true (by omega)
  clear HS0 hn hm hf hv he hs hl hsb hxs HR0 hat hu hz
  go_enter Tryd.func6, Tryd.ntmps6
  go_wp2_with (first
    | (go_at_call 10; go_loud (refine HS.out.mono ?_; rintro e w1 ⟨rfl, hp1, hz1, ⟨c10, c11, c12, c13⟩, ⟨d10, d11, d12, d13⟩, hfz1, hl1⟩; have k10 : w1.cell? ⟨w.heap.size + 2, 0, none⟩ = some (.string a) := hl1 0 (by simp); have k11 : w1.cell? ⟨w.heap.size + 2, 1, none⟩ = some (.string b) := hl1 1 (by simp); have k12 : w1.cell? ⟨w.heap.size + 2, 2, none⟩ = some (.string x) := hl1 2 (by simp); clear hl1 hfz1))
    | (go_at_call 11; go_loud (refine (HV.out _ (by exact hp1)).mono ?_; rintro e w2 ⟨rfl, hq⟩; obtain ⟨hp2, hz2, ⟨c20, c21, c22, c23⟩, ⟨d20, d21, d22, d23⟩, hfz2, hl2⟩ := id hq; have k20 : w2.cell? ⟨w.heap.size + 2, 0, none⟩ = some (.string a) := hl2 0 (by simp); have k21 : w2.cell? ⟨w.heap.size + 2, 1, none⟩ = some (.string b) := hl2 1 (by simp); have k22 : w2.cell? ⟨w.heap.size + 2, 2, none⟩ = some (.string x) := hl2 2 (by simp); clear hl2 hfz2))
    | (go_at_call 12; go_loud (refine (HM.out _).mono ?_; rintro e w3 ⟨rfl, rfl⟩))
    | (go_at_call 14; go_loud (refine (HF.out _).mono ?_; rintro e w4 ⟨rfl, rfl⟩)))
  have x1 : w.heap.size + 2 < w2.heap.size := by omega
  have x2 : (w.heap.size + 2 != w2.heap.size) = true := by simp; omega
  go_region_with (fail)
  all_goals refine ?same
  have q0 := PcF.start (a := a) (b := b) hq
  obtain ⟨V, hV⟩ : ∃ V, (w2.alloc (.cells #[.string a, .string b, .int .i64 0, .string { data := #[] }] 23)).drew = V := ⟨_, rfl⟩
  rw [hV] at q0 ⊢
  clear hV
  generalize w2.heap.size = C at *
  obtain ⟨⟨z0, z1⟩, zb, ⟨e00, e01, e02, e03⟩, ⟨f00, f01, f02, f03⟩, ⟨e10, e11, e12, e13⟩, ⟨e20, e21, e22, e23⟩, ⟨f20, f21, f22, f23⟩, el⟩ := id q0
  simp only [cm0] at e00 e01 e02 e03 e10 e11 e12 e13
  have g2 : V.cell? ⟨w.heap.size + 2, 2, none⟩ = some (.string x) := el 2 (by simp)
  clear el
  go_wp2_with (first
    | (go_at_call 12; go_loud (refine (HM.out _).mono ?_; rintro e w3 ⟨rfl, rfl⟩))
    | (go_at_call 14; go_loud (refine (HF.out _).mono ?_; rintro e w4 ⟨rfl, rfl⟩))
    | (go_at_call 15; go_loud (refine (HA.out _ _ (by exact q0)).mono ?_; rintro e w6 ⟨rfl, q6⟩; obtain ⟨⟨z0, z1⟩, zb, ⟨e00, e01, e02, e03⟩, ⟨f00, f01, f02, f03⟩, ⟨e10, e11, e12, e13⟩, ⟨e20, e21, e22, e23⟩, ⟨f20, f21, f22, f23⟩, el⟩ := id q6; simp only [cm0] at e00 e01 e02 e03 e10 e11 e12 e13; have g6 : w6.cell? ⟨w.heap.size + 2, 2, none⟩ = some (.string x) := el 2 (by simp); clear el)))
  go_quiet (fail)
  go_wp2_with fail
  rw [HP.out]
  obtain ⟨y1, y2⟩ := out_ps (c := cm0) (w := w) (W := w6.drewN nq) ⟨e00, e01, e02, e03⟩ (Nat.le_refl _) (below_drewN zb nq) cm0
  exact ret_ps y1 y2 rfl rfl rfl

end Go.Proofs.YtdlifdmnfbjokaaDoor
