/- Package console: Parse, where the parts do not fit. -/
import Derived.Test.YtdlifdmnfbjokaaDoorCA5
namespace Go.Proofs.YtdlifdmnfbjokaaDoor
open Go.RowKit
open Go.Lib hiding intOf

set_option maxRecDepth 100000 in
set_option maxHeartbeats 8000000 in
theorem parse_v (s : ByteArray) (l : List ByteArray) (a : ByteArray) (N : Nat) (v : Int) (w : World) (hs : s.size ≤ 1100000) (he : Env w) (hl : partsB s = l) (ha : pk l 0 = a) (hN : l.length = N) (hN1 : 0 < N) (hN2 : N ≤ 2000000) (hv : vIx a = v) (hn : v < 0) : Calls Tryd.prog 6 #[.string s] w (PaP (parseC s) w) := by
  have HS0 := split_ps s w hs he
  rw [hl, hN] at HS0
  have HS := Lib.hid (show Calls Tryd.prog 10 #[.string s, .string { data := #[32] }] ((w.alloc (.cells #[.string { data := #[] }, .string { data := #[] }, .int .i64 0, .string { data := #[] }] 23)).alloc (.cells #[.string { data := #[] }, .string { data := #[] }, .int .i64 0, .string { data := #[] }] 23)) fun e W => e = .returned (.slice (some ⟨w.heap.size + 2, 0, none⟩) N N) ∧ PsF l w W from HS0)
  have HV := Lib.hid (fun (W : World) (hb : PsP l w W) => (verb_any a W).mono fun e W2 h => (show e = .returned (.int .i64 v) ∧ PsF l w W2 from ⟨by rw [h.1, hv], (hb.on h.2).facts⟩))
  have hm : numV v = true := by unfold numV; exact decide_eq_true (by omega)
  have HM := Lib.hid (fun (W : World) => (num_any v W).mono fun e W2 h => (show e = .returned (.bool true) ∧ W = W2 from ⟨by rw [h.1, hm], h.2⟩))
  have HP : Hid (parseC s = (cm0, 5)) := Lib.hid (by
    unfold parseC; rw [hl]; unfold parseL
    rw [if_pos]
    rw [ha, hv, hN]
    exact .inl hn)
  have HK : Hid (∀ W, PsF l w W → W.cell? ⟨w.heap.size + 2, 0, none⟩ = some (.string a)) := Lib.hid (fun W h => by rw [← ha]; exact h.2.2.2.2.2 0 (by omega))
  have b0 : decide (v < 0) = true := decide_eq_true hn
  clear hn
  clear HS0 hm hv he hs hl ha hN
  go_enter Tryd.func6, Tryd.ntmps6
  go_wp2_with (first
    | (go_at_call 10; go_loud (refine HS.out.mono ?_; rintro e w1 ⟨rfl, hq1⟩; have k10 := HK.out _ hq1; obtain ⟨hp1, hz1, ⟨c10, c11, c12, c13⟩, ⟨d10, d11, d12, d13⟩, hfz1, hl1⟩ := id hq1; clear hl1 hfz1))
    | (go_at_call 11; go_loud (refine (HV.out _ (by exact hp1)).mono ?_; rintro e w2 ⟨rfl, hq⟩; obtain ⟨hp2, hz2, ⟨c20, c21, c22, c23⟩, ⟨d20, d21, d22, d23⟩, hfz2, hl2⟩ := id hq; have f0 := hfz2 0; have f1 := hfz2 1; have f2 := hfz2 2; have f3 := hfz2 3; clear hl2 hfz2))
    | (go_at_call 12; go_loud (refine (HM.out _).mono ?_; rintro e w3 ⟨rfl, rfl⟩))
    | (go_at_call 14; go_loud (refine (HF.out _).mono ?_; rintro e w4 ⟨rfl, rfl⟩)))
  rw [HP.out]
  obtain ⟨y1, y2⟩ := out_ps (c := cm0) (w := w) (W := w2) ⟨c20, c21, c22, c23⟩ (Nat.le_refl _) hp2.below cm0
  exact ret_ps y1 y2 rfl rfl rfl

set_option maxRecDepth 100000 in
set_option maxHeartbeats 8000000 in
theorem parse_n3 (s : ByteArray) (l : List ByteArray) (a : ByteArray) (N : Nat) (v : Int) (w : World) (hs : s.size ≤ 1100000) (he : Env w) (hl : partsB s = l) (ha : pk l 0 = a) (hN : l.length = N) (hN1 : 0 < N) (hN2 : N ≤ 2000000) (hv : vIx a = v) (hn : ¬ v < 0) (hm : numV v = true) (hc : N ≠ 3) : Calls Tryd.prog 6 #[.string s] w (PaP (parseC s) w) := by
  have HS0 := split_ps s w hs he
  rw [hl, hN] at HS0
  have HS := Lib.hid (show Calls Tryd.prog 10 #[.string s, .string { data := #[32] }] ((w.alloc (.cells #[.string { data := #[] }, .string { data := #[] }, .int .i64 0, .string { data := #[] }] 23)).alloc (.cells #[.string { data := #[] }, .string { data := #[] }, .int .i64 0, .string { data := #[] }] 23)) fun e W => e = .returned (.slice (some ⟨w.heap.size + 2, 0, none⟩) N N) ∧ PsF l w W from HS0)
  have HV := Lib.hid (fun (W : World) (hb : PsP l w W) => (verb_any a W).mono fun e W2 h => (show e = .returned (.int .i64 v) ∧ PsF l w W2 from ⟨by rw [h.1, hv], (hb.on h.2).facts⟩))
  have HM := Lib.hid (fun (W : World) => (num_any v W).mono fun e W2 h => (show e = .returned (.bool true) ∧ W = W2 from ⟨by rw [h.1, hm], h.2⟩))
  have HP : Hid (parseC s = (cm0, 5)) := Lib.hid (by
    unfold parseC; rw [hl]; unfold parseL
    rw [if_pos]
    rw [ha, hv, hN]
    right; unfold cntV; rw [hm]; exact hc)
  have HK : Hid (∀ W, PsF l w W → W.cell? ⟨w.heap.size + 2, 0, none⟩ = some (.string a)) := Lib.hid (fun W h => by rw [← ha]; exact h.2.2.2.2.2 0 (by omega))
  have b0 : decide (v < 0) = false := decide_eq_false hn
  clear hn
  have bN1 : decide ((N : Int) = 3) = false := decide_eq_false (by omega)
  have bN2 : ((N : Int) != 3) = true := by simp; omega
  have bN3 : (N != 3) = true := by simp; omega
  clear hc
  clear HS0 hm hv he hs hl ha hN
  go_enter Tryd.func6, Tryd.ntmps6
  go_wp2_with (first
    | (go_at_call 10; go_loud (refine HS.out.mono ?_; rintro e w1 ⟨rfl, hq1⟩; have k10 := HK.out _ hq1; obtain ⟨hp1, hz1, ⟨c10, c11, c12, c13⟩, ⟨d10, d11, d12, d13⟩, hfz1, hl1⟩ := id hq1; clear hl1 hfz1))
    | (go_at_call 11; go_loud (refine (HV.out _ (by exact hp1)).mono ?_; rintro e w2 ⟨rfl, hq⟩; obtain ⟨hp2, hz2, ⟨c20, c21, c22, c23⟩, ⟨d20, d21, d22, d23⟩, hfz2, hl2⟩ := id hq; have f0 := hfz2 0; have f1 := hfz2 1; have f2 := hfz2 2; have f3 := hfz2 3; clear hl2 hfz2))
    | (go_at_call 12; go_loud (refine (HM.out _).mono ?_; rintro e w3 ⟨rfl, rfl⟩))
    | (go_at_call 14; go_loud (refine (HF.out _).mono ?_; rintro e w4 ⟨rfl, rfl⟩)))
  rw [HP.out]
  obtain ⟨y1, y2⟩ := out_ps (c := cm0) (w := w) (W := w2) ⟨c20, c21, c22, c23⟩ (Nat.le_refl _) hp2.below cm0
  exact ret_ps y1 y2 rfl rfl rfl

set_option maxRecDepth 100000 in
set_option maxHeartbeats 8000000 in
theorem parse_f3 (s : ByteArray) (l : List ByteArray) (a : ByteArray) (N : Nat) (v : Int) (w : World) (hs : s.size ≤ 1100000) (he : Env w) (hl : partsB s = l) (ha : pk l 0 = a) (hN : l.length = N) (hN1 : 0 < N) (hN2 : N ≤ 2000000) (hv : vIx a = v) (hn : ¬ v < 0) (hm : numV v = false) (hf : fixV v = true) (hc : N ≠ 3) : Calls Tryd.prog 6 #[.string s] w (PaP (parseC s) w) := by
  have HS0 := split_ps s w hs he
  rw [hl, hN] at HS0
  have HS := Lib.hid (show Calls Tryd.prog 10 #[.string s, .string { data := #[32] }] ((w.alloc (.cells #[.string { data := #[] }, .string { data := #[] }, .int .i64 0, .string { data := #[] }] 23)).alloc (.cells #[.string { data := #[] }, .string { data := #[] }, .int .i64 0, .string { data := #[] }] 23)) fun e W => e = .returned (.slice (some ⟨w.heap.size + 2, 0, none⟩) N N) ∧ PsF l w W from HS0)
  have HV := Lib.hid (fun (W : World) (hb : PsP l w W) => (verb_any a W).mono fun e W2 h => (show e = .returned (.int .i64 v) ∧ PsF l w W2 from ⟨by rw [h.1, hv], (hb.on h.2).facts⟩))
  have HM := Lib.hid (fun (W : World) => (num_any v W).mono fun e W2 h => (show e = .returned (.bool false) ∧ W = W2 from ⟨by rw [h.1, hm], h.2⟩))
  have HF := Lib.hid (fun (W : World) => (fix_any v W).mono fun e W2 h => (show e = .returned (.bool true) ∧ W = W2 from ⟨by rw [h.1, hf], h.2⟩))
  have HP : Hid (parseC s = (cm0, 5)) := Lib.hid (by
    unfold parseC; rw [hl]; unfold parseL
    rw [if_pos]
    rw [ha, hv, hN]
    right; unfold cntV; rw [hm, hf]; exact hc)
  have HK : Hid (∀ W, PsF l w W → W.cell? ⟨w.heap.size + 2, 0, none⟩ = some (.string a)) := Lib.hid (fun W h => by rw [← ha]; exact h.2.2.2.2.2 0 (by omega))
  have b0 : decide (v < 0) = false := decide_eq_false hn
  clear hn
  have bN1 : decide ((N : Int) = 3) = false := decide_eq_false (by omega)
  have bN2 : ((N : Int) != 3) = true := by simp; omega
  have bN3 : (N != 3) = true := by simp; omega
  clear hc
  clear HS0 hm hf hv he hs hl ha hN
  go_enter Tryd.func6, Tryd.ntmps6
  go_wp2_with (first
    | (go_at_call 10; go_loud (refine HS.out.mono ?_; rintro e w1 ⟨rfl, hq1⟩; have k10 := HK.out _ hq1; obtain ⟨hp1, hz1, ⟨c10, c11, c12, c13⟩, ⟨d10, d11, d12, d13⟩, hfz1, hl1⟩ := id hq1; clear hl1 hfz1))
    | (go_at_call 11; go_loud (refine (HV.out _ (by exact hp1)).mono ?_; rintro e w2 ⟨rfl, hq⟩; obtain ⟨hp2, hz2, ⟨c20, c21, c22, c23⟩, ⟨d20, d21, d22, d23⟩, hfz2, hl2⟩ := id hq; have f0 := hfz2 0; have f1 := hfz2 1; have f2 := hfz2 2; have f3 := hfz2 3; clear hl2 hfz2))
    | (go_at_call 12; go_loud (refine (HM.out _).mono ?_; rintro e w3 ⟨rfl, rfl⟩))
    | (go_at_call 14; go_loud (refine (HF.out _).mono ?_; rintro e w4 ⟨rfl, rfl⟩)))
  rw [HP.out]
  obtain ⟨y1, y2⟩ := out_ps (c := cm0) (w := w) (W := w2) ⟨c20, c21, c22, c23⟩ (Nat.le_refl _) hp2.below cm0
  exact ret_ps y1 y2 rfl rfl rfl

set_option maxRecDepth 100000 in
set_option maxHeartbeats 8000000 in
theorem parse_n2 (s : ByteArray) (l : List ByteArray) (a : ByteArray) (N : Nat) (v : Int) (w : World) (hs : s.size ≤ 1100000) (he : Env w) (hl : partsB s = l) (ha : pk l 0 = a) (hN : l.length = N) (hN1 : 0 < N) (hN2 : N ≤ 2000000) (hv : vIx a = v) (hn : ¬ v < 0) (hm : numV v = false) (hf : fixV v = false) (hc : N ≠ 2) : Calls Tryd.prog 6 #[.string s] w (PaP (parseC s) w) := by
  have HS0 := split_ps s w hs he
  rw [hl, hN] at HS0
  have HS := Lib.hid (show Calls Tryd.prog 10 #[.string s, .string { data := #[32] }] ((w.alloc (.cells #[.string { data := #[] }, .string { data := #[] }, .int .i64 0, .string { data := #[] }] 23)).alloc (.cells #[.string { data := #[] }, .string { data := #[] }, .int .i64 0, .string { data := #[] }] 23)) fun e W => e = .returned (.slice (some ⟨w.heap.size + 2, 0, none⟩) N N) ∧ PsF l w W from HS0)
  have HV := Lib.hid (fun (W : World) (hb : PsP l w W) => (verb_any a W).mono fun e W2 h => (show e = .returned (.int .i64 v) ∧ PsF l w W2 from ⟨by rw [h.1, hv], (hb.on h.2).facts⟩))
  have HM := Lib.hid (fun (W : World) => (num_any v W).mono fun e W2 h => (show e = .returned (.bool false) ∧ W = W2 from ⟨by rw [h.1, hm], h.2⟩))
  have HF := Lib.hid (fun (W : World) => (fix_any v W).mono fun e W2 h => (show e = .returned (.bool false) ∧ W = W2 from ⟨by rw [h.1, hf], h.2⟩))
  have HP : Hid (parseC s = (cm0, 5)) := Lib.hid (by
    unfold parseC; rw [hl]; unfold parseL
    rw [if_pos]
    rw [ha, hv, hN]
    right; unfold cntV; rw [hm, hf]; exact hc)
  have HK : Hid (∀ W, PsF l w W → W.cell? ⟨w.heap.size + 2, 0, none⟩ = some (.string a)) := Lib.hid (fun W h => by rw [← ha]; exact h.2.2.2.2.2 0 (by omega))
  have b0 : decide (v < 0) = false := decide_eq_false hn
  clear hn
  have bN1 : decide ((N : Int) = 2) = false := decide_eq_false (by omega)
  have bN2 : ((N : Int) != 2) = true := by simp; omega
  have bN3 : (N != 2) = true := by simp; omega
  clear hc
  clear HS0 hm hf hv he hs hl ha hN
  go_enter Tryd.func6, Tryd.ntmps6
  go_wp2_with (first
    | (go_at_call 10; go_loud (refine HS.out.mono ?_; rintro e w1 ⟨rfl, hq1⟩; have k10 := HK.out _ hq1; obtain ⟨hp1, hz1, ⟨c10, c11, c12, c13⟩, ⟨d10, d11, d12, d13⟩, hfz1, hl1⟩ := id hq1; clear hl1 hfz1))
    | (go_at_call 11; go_loud (refine (HV.out _ (by exact hp1)).mono ?_; rintro e w2 ⟨rfl, hq⟩; obtain ⟨hp2, hz2, ⟨c20, c21, c22, c23⟩, ⟨d20, d21, d22, d23⟩, hfz2, hl2⟩ := id hq; have f0 := hfz2 0; have f1 := hfz2 1; have f2 := hfz2 2; have f3 := hfz2 3; clear hl2 hfz2))
    | (go_at_call 12; go_loud (refine (HM.out _).mono ?_; rintro e w3 ⟨rfl, rfl⟩))
    | (go_at_call 14; go_loud (refine (HF.out _).mono ?_; rintro e w4 ⟨rfl, rfl⟩)))
  rw [HP.out]
  obtain ⟨y1, y2⟩ := out_ps (c := cm0) (w := w) (W := w2) ⟨c20, c21, c22, c23⟩ (Nat.le_refl _) hp2.below cm0
  exact ret_ps y1 y2 rfl rfl rfl

end Go.Proofs.YtdlifdmnfbjokaaDoor
