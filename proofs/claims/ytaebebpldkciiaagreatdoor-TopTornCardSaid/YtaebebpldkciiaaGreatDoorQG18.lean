/- Contracts and plain words, part 18: texts U17. -/
import Derived.Test.YtaebebpldkciiaaGreatDoorQG17
namespace Go.Proofs.YtaebebpldkciiaaGreatDoor
open Go.RowKit
def KsOk (ks : Nat → ByteArray) : Prop := ∀ i, i < 7 → (ks i).size ≤ 8 ∧ (ks i).size ≠ 0 ∧ lowS (ks i) = true
def KsAt (ks : Nat → ByteArray) (w : World) : Prop := ∀ i, i < 7 → w.cell? ⟨0, i, none⟩ = some (.string (ks i))
theorem meth_no {S : Su} {c : Ce} {x : Inp} (h : (methP S c x).2 ≠ 0) : (methP S c x).1 = c := by
 unfold methP at h ⊢
 by_cases k0 : x.kind = 0
 ·rw [if_pos k0] at h ⊢
  by_cases hf : fileE S c x = 0
  ·rw [if_pos hf] at h; exact absurd rfl h
  ·rw [if_neg hf]
 rw [if_neg k0] at h ⊢
 by_cases k1 : x.kind = 1
 ·rw [if_pos k1] at h ⊢; rw [show (offP c.ow x.call x.by_ x.to_).1 = c.ow from offP_no h]
 rw [if_neg k1] at h ⊢
 by_cases k2 : x.kind = 2
 ·rw [if_pos k2] at h ⊢; rw [show (accP c.ow x.call x.by_).1 = c.ow from accP_no h]
 rw [if_neg k2] at h ⊢
 by_cases k3 : x.kind = 3
 ·rw [if_pos k3] at h ⊢
  by_cases hf : clearE S c x = 0
  ·rw [if_pos hf] at h; exact absurd rfl h
  ·rw [if_neg hf]
 rw [if_neg k3] at h ⊢
 by_cases k4 : x.kind = 4
 ·rw [if_pos k4] at h ⊢
  by_cases hf : hearE c x = 0
  ·rw [if_pos hf] at h; exact absurd rfl h
  ·rw [if_neg hf]
 rw [if_neg k4] at h ⊢
 by_cases k5 : x.kind = 5
 ·rw [if_pos k5] at h ⊢
  by_cases hf : refuseE c x = 0
  ·rw [if_pos hf] at h; exact absurd rfl h
  ·rw [if_neg hf]
 rw [if_neg k5] at h ⊢
 by_cases hf : endE c x = 0
 ·rw [if_pos hf] at h; exact absurd rfl h
 ·rw [if_neg hf]
theorem add_zero {S : Su} {c : Ce} (hok : CeOk c) (h20 : c.acc < 20) {x : Inp} (h : (methP S c x).2 = 0) {ks : Nat → ByteArray} (hko : KsOk ks) {k : Nat} (hk : k < 7) (h1 : c.time ≤ x.time) (h2 : x.time ≤ 200000) :
  addC c.log x.time (ks k) x.call = 0 ∧ Wf (newE c.log x.time (ks k) x.call) := by
 obtain ⟨s1, s2, s3⟩ := hko k hk
 have hn := name_size (meth_name hok h)
 have hl := hok.log
 have ht := hok.t
 refine ⟨?_, ⟨?_, ?_⟩, ⟨?_, ?_⟩, ?_, ?_⟩
 ·have hc : chk (newE c.log x.time (ks k) x.call) = 0 := by
   unfold chk newE
   dsimp only
   rw [if_neg (by omega), if_neg (by omega), if_neg (by rw [s3]; simp; simpa using s2)]
  unfold addC
  rw [if_neg (by rw [hc]; decide), if_neg]
  rintro ⟨hp, hlt⟩
  obtain ⟨e, he, hle⟩ := last_some hp
  have := (hok.logt e (List.mem_of_getElem? he)).2
  omega
 all_goals (simp only [newE, maxLen]; omega)
set_option maxRecDepth 100000 in
set_option maxHeartbeats 8000000 in
theorem Step_any {F : Nat → Prop} {g : Nat} {S : Su} {c : Ce} {y : Lay} {w : World} (h : CeM F g S c y w) (hok : CeOk c) (hS : SuOk S) (h20 : c.acc < 20) (x : Inp) (A : Option Addr) (n cA : Nat) (hT : TuA A n x.tube w) (hn : n ≤ maxLen)
  (hs1 : x.call.size ≤ maxLen) (hs2 : x.by_.size ≤ maxLen) (hs3 : x.to_.size ≤ maxLen) (ks : Nat → ByteArray) (hks : KsAt ks w) (hko : KsOk ks) (h0 : ¬ F 0) :
  Calls Tryz.prog 39 #[.pointer (some ⟨g, 0, none⟩), inpV x A n cA] w (MethP F g S w (stepP ks S c x)) := by
 obtain ⟨V, hV⟩ : ∃ V, w.alloc (inpO x A n cA) = V := ⟨_, rfl⟩
 have hbV : Below w.heap.size w V := by rw [← hV]; exact (Below.refl _ _).alloc (Nat.le_refl _) _
 have hzV : V.heap.size = w.heap.size + 1 := by rw [← hV, size_al]
 have hgB : V.heap[w.heap.size]? = some (inpO x A n cA) := by rw [← hV]; exact heap_alloc_new _ _
 have hMV := h.below hbV
 have HV := Lib.hid hV
 have HBV := Lib.hid hbV
 have HZV := Lib.hid hzV
 have HFb := Lib.hid h.bd
 have HM := Lib.hid hMV
 have HOk := Lib.hid hok
 have H20 := Lib.hid h20
 have HKo := Lib.hid hko
 have HF0 := Lib.hid h0
 have HFg := Lib.hid h.fg
 have HKs := Lib.hid (fun (W : World) (hb : Below V.heap.size V W) i hi => (show W.cell? ⟨0, i, none⟩ = some (.string (ks i)) by rw [(hbV.trans (hb.mono hbV.size)).cell (p := ⟨0, i, none⟩) (World.block_lt_of_cell? w _ (hks i hi))]; exact hks i hi))
 have H0w : Hid (0 < w.heap.size) := Lib.hid (World.block_lt_of_cell? w _ (hks 0 (by decide)))
 have HC := Lib.hid (fun (W : World) (hb : Below V.heap.size V W) (k : Nat) (hk : x.kind = (k : Int)) (h7 : k < 7) => meth_any (hMV.below hb) hok hS h20 x A n cA (hT.below (hbV.trans (hb.mono hbV.size))) hn hs1 hs2 hs3 k hk h7)
 obtain ⟨R, hR⟩ : ∃ R, MethP F g S w (stepP ks S c x) = R := ⟨_, rfl⟩
 have HNo : Hid (∀ (k : Int) (W : World) (e : Ending), stepP ks S c x = (c, k) → Below V.heap.size V W → e = .returned (.int .i64 k) → R e W) := Lib.hid (fun k W e he hb hee => by
  rw [hee, ← hR, he]
  exact MethP.same h (hbV.trans (hb.mono hbV.size)) k)
 have HRe := Lib.hid hR
 have HEq : Hid (stepP ks S c x = if x.kind < 0 ∨ 7 ≤ x.kind then (c, 1) else if x.time < c.time ∨ 200000 < x.time then (c, 12) else if (methP S c x).2 = 0 then (bookC ks (methP S c x).1 x, 0) else (c, (methP S c x).2)) := Lib.hid rfl
 rw [hR]
 have gl : g < w.heap.size := h.bd g h.fg
 have eacc : ((c.acc : Int) == 400) = false := by rw [beq_eq_false_iff_ne]; omega
 unfold inpV
 unfold inpV at HC
 unfold inpO at hgB hV HV
 have HXc := Lib.hid (fun (W : World) (hb : Below V.heap.size V W) => (show W.cell? ⟨w.heap.size, 0, none⟩ = some (.int .i64 x.kind) ∧ W.cell? ⟨w.heap.size, 1, none⟩ = some (.int .i64 x.time) ∧ W.cell? ⟨w.heap.size, 2, none⟩ = some (.string x.call) ∧ W.cell? ⟨w.heap.size, 3, none⟩ = some (.string x.by_) ∧ W.cell? ⟨w.heap.size, 4, none⟩ = some (.string x.to_) ∧ W.cell? ⟨w.heap.size, 5, none⟩ = some (.slice A n cA) ∧ W.cell? ⟨w.heap.size, 6, none⟩ = some (.int .i64 x.wake) ∧ W.cell? ⟨w.heap.size, 7, none⟩ = some (.int .i64 x.slot) ∧ W.cell? ⟨w.heap.size, 8, none⟩ = some (.bool x.lands) ∧ W.cell? ⟨g, 18, none⟩ = some (.int .i64 c.time) ∧ W.cell? ⟨g, 22, none⟩ = some (.int .i64 (c.acc : Int)) from by
  have hx := (hb.block _ (show w.heap.size < V.heap.size by omega)).trans hgB
  exact ⟨cell_of_row _ _ 0 _ _ _ hx, cell_of_row _ _ 1 _ _ _ hx, cell_of_row _ _ 2 _ _ _ hx, cell_of_row _ _ 3 _ _ _ hx, cell_of_row _ _ 4 _ _ _ hx, cell_of_row _ _ 5 _ _ _ hx, cell_of_row _ _ 6 _ _ _ hx, cell_of_row _ _ 7 _ _ _ hx, cell_of_row _ _ 8 _ _ _ hx, (hMV.below hb).cell 18, (hMV.below hb).cell 22⟩))
 have HBx := Lib.hid (fun (W : World) (hb : Below V.heap.size V W) => (hb.block _ (show w.heap.size < V.heap.size by omega)).trans hgB)
 obtain ⟨x0, x1, x2, x3, x4, x5, x6, x7, x8, c18, c22⟩ := HXc.out V (Below.refl _ _)
 have HB := Lib.hid hgB
 clear hgB hbV hzV hMV hR h hok h20 hT hn hs1 hs2 hs3 hks hko h0
 go_enter Tryz.func39, Tryz.ntmps39
 by_cases q0 : x.kind < 0
 ·have e0 : decide (x.kind < 0) = true := decide_eq_true q0
  rw [if_pos (.inl q0)] at HEq
  clear q0
  go_wp2_with fail
  (try go_ret)
  exact HNo.out 1 _ _ HEq.out (Below.refl _ _) rfl
 have e0 : decide (x.kind < 0) = false := decide_eq_false q0
 by_cases q1 : 7 ≤ x.kind
 ·have e1 : decide (7 ≤ x.kind) = true := decide_eq_true q1
  rw [if_pos (.inr q1)] at HEq
  clear q0 q1
  go_wp2_with fail
  (try go_ret)
  exact HNo.out 1 _ _ HEq.out (Below.refl _ _) rfl
 have e1 : decide (7 ≤ x.kind) = false := decide_eq_false q1
 rw [if_neg (by omega)] at HEq
 have HQk : Hid (0 ≤ x.kind ∧ x.kind < 7) := Lib.hid (by omega)
 clear q0 q1
 by_cases q2 : x.time < c.time
 ·have e2 : decide (x.time < c.time) = true := decide_eq_true q2
  rw [if_pos (.inl q2)] at HEq
  clear q2
  go_upto_region 3 with (fail)
  have r18 := cell_regrown c18
  have r1 := cell_regrown x1
  clear x0 x1 x2 x3 x4 x5 x6 x7 x8 c18 c22
  refine wp_region_quiet_below (by kernel_rfl) (by kernel_rfl) ?_
  repeat (go_big_quiet_step (fail))
  refine wpQuiet_nil ?_
  intro w1 hwz
  have hb1 : Below V.heap.size V w1 := by obtain ⟨⟨dq, osq⟩, rfl⟩ := hwz; exact below_regrown _ _ _
  have HB1 := Lib.hid hb1
  clear hwz r18 r1 hb1
  go_wp2_with fail
  (try go_ret)
  exact HNo.out 12 _ _ HEq.out HB1.out rfl
 have e2 : decide (x.time < c.time) = false := decide_eq_false q2
 by_cases q3 : 200000 < x.time
 ·have e3 : decide (200000 < x.time) = true := decide_eq_true q3
  rw [if_pos (.inr q3)] at HEq
  clear q2 q3
  go_upto_region 3 with (fail)
  have r18 := cell_regrown c18
  have r1 := cell_regrown x1
  clear x0 x1 x2 x3 x4 x5 x6 x7 x8 c18 c22
  refine wp_region_quiet_below (by kernel_rfl) (by kernel_rfl) ?_
  repeat (go_big_quiet_step (fail))
  refine wpQuiet_nil ?_
  intro w1 hwz
  have hb1 : Below V.heap.size V w1 := by obtain ⟨⟨dq, osq⟩, rfl⟩ := hwz; exact below_regrown _ _ _
  have HB1 := Lib.hid hb1
  clear hwz r18 r1 hb1
  go_wp2_with fail
  (try go_ret)
  exact HNo.out 12 _ _ HEq.out HB1.out rfl
 have e3 : decide (200000 < x.time) = false := decide_eq_false q3
 rw [if_neg (by omega)] at HEq
 have HQt : Hid (c.time ≤ x.time ∧ x.time ≤ 200000) := Lib.hid (by omega)
 clear q2 q3
 go_upto_region 3 with (fail)
 have r18 := cell_regrown c18
 have r1 := cell_regrown x1
 clear x0 x1 x2 x3 x4 x5 x6 x7 x8 c18 c22
 refine wp_region_quiet_below (by kernel_rfl) (by kernel_rfl) ?_
 repeat (go_big_quiet_step (fail))
 refine wpQuiet_nil ?_
 intro w1 hwz
 have hb1 : Below V.heap.size V w1 := by obtain ⟨⟨dq, osq⟩, rfl⟩ := hwz; exact below_regrown _ _ _
 have HB1 := Lib.hid hb1
 clear hwz r18 r1 hb1
 obtain ⟨x0, x1, x2, x3, x4, x5, x6, x7, x8, c18, c22⟩ := HXc.out w1 HB1.out
 go_upto_region 7 with (fail)
 have HXa := Lib.hid (fun (W : World) (hx : W.heap[w.heap.size]? = w1.heap[w.heap.size]?) => (show W.cell? ⟨w.heap.size, 0, none⟩ = some (.int .i64 x.kind) ∧ W.cell? ⟨w.heap.size, 1, none⟩ = some (.int .i64 x.time) ∧ W.cell? ⟨w.heap.size, 2, none⟩ = some (.string x.call) ∧ W.cell? ⟨w.heap.size, 3, none⟩ = some (.string x.by_) ∧ W.cell? ⟨w.heap.size, 4, none⟩ = some (.string x.to_) ∧ W.cell? ⟨w.heap.size, 5, none⟩ = some (.slice A n cA) ∧ W.cell? ⟨w.heap.size, 6, none⟩ = some (.int .i64 x.wake) ∧ W.cell? ⟨w.heap.size, 7, none⟩ = some (.int .i64 x.slot) ∧ W.cell? ⟨w.heap.size, 8, none⟩ = some (.bool x.lands) from by
  have hx := hx.trans (HBx.out w1 HB1.out)
  exact ⟨cell_of_row _ _ 0 _ _ _ hx, cell_of_row _ _ 1 _ _ _ hx, cell_of_row _ _ 2 _ _ _ hx, cell_of_row _ _ 3 _ _ _ hx, cell_of_row _ _ 4 _ _ _ hx, cell_of_row _ _ 5 _ _ _ hx, cell_of_row _ _ 6 _ _ _ hx, cell_of_row _ _ 7 _ _ _ hx, cell_of_row _ _ 8 _ _ _ hx⟩))
 obtain ⟨rm, hrm⟩ : ∃ r, methP S c x = r := ⟨_, rfl⟩
 rw [hrm] at HEq
 have HRm := Lib.hid hrm
 have HC := Lib.hid (fun W hb k hk h7 => (by have := HC.out W hb k hk h7; rw [hrm] at this; exact this : Calls Tryz.prog (63 + k) #[.pointer (some ⟨g, 0, none⟩), .agg #[.int .i64 x.kind, .int .i64 x.time, .string x.call, .string x.by_, .string x.to_, .slice A n cA, .int .i64 x.wake, .int .i64 x.slot, .bool x.lands]] W (MethP F g S W rm)))
 clear hrm
 obtain ⟨d, mk⟩ := rm
 have hBl : w.heap.size < w1.heap.size := by have := HB1.out.size; have := HZV.out; omega
 have hBF : ¬ F w.heap.size := fun hf => by have := HFb.out _ hf; omega
 go_cut [5] from 34 to 53 (fun s5 wx => s5 = .int .i64 mk ∧ ∃ F1 : Nat → Prop, CeAt F1 g S d wx ∧ Off F w1 wx ∧ ∀ b, F1 b → F b ∨ w1.heap.size ≤ b)
 case first =>
  clear c18 c22
  obtain ⟨k, hk⟩ : ∃ k : Nat, x.kind = (k : Int) := ⟨x.kind.toNat, by have := HQk.out; omega⟩
  have hk7 : k < 7 := by have := HQk.out; omega
  have HCk := Lib.hid (HC.out w1.drew HB1.out.drew k hk hk7)
  clear HC
  rcases (show k = 0 ∨ k = 1 ∨ k = 2 ∨ k = 3 ∨ k = 4 ∨ k = 5 ∨ k = 6 by omega) with e | e | e | e | e | e | e <;> subst e
  ·have hk' : x.kind = 0 := hk
   have HCq : Hid (Calls Tryz.prog 63 #[.pointer (some ⟨g, 0, none⟩), .agg #[.int .i64 x.kind, .int .i64 x.time, .string x.call, .string x.by_, .string x.to_, .slice A n cA, .int .i64 x.wake, .int .i64 x.slot, .bool x.lands]] w1.drew (fun e w3 => e = .returned (.int .i64 mk) ∧ ∃ F1 : Nat → Prop, CeAt F1 g S d w3 ∧ Off F w1.drew w3 ∧ ∀ b, F1 b → F b ∨ w1.drew.heap.size ≤ b)) := HCk
   clear HCk
   have hix : ∀ W : World, (Instr.index 130 (.agg #[.func (.func 63) #[.pointer (some ⟨g, 0, none⟩)] #[], .func (.func 64) #[.pointer (some ⟨g, 0, none⟩)] #[], .func (.func 65) #[.pointer (some ⟨g, 0, none⟩)] #[], .func (.func 66) #[.pointer (some ⟨g, 0, none⟩)] #[], .func (.func 67) #[.pointer (some ⟨g, 0, none⟩)] #[], .func (.func 68) #[.pointer (some ⟨g, 0, none⟩)] #[], .func (.func 69) #[.pointer (some ⟨g, 0, none⟩)] #[]]) (.int .i64 x.kind)).run Tryz.prog W = .ok (.func (.func 63) #[.pointer (some ⟨g, 0, none⟩)] #[]) W := fun W => by rw [hk']; kernel_rfl
   clear hk' hk hk7
   refine wp_region_held_drew (S := (fun W => W.cell? ⟨w.heap.size, 0, none⟩ = some (.int .i64 x.kind) ∧ W.cell? ⟨w.heap.size, 1, none⟩ = some (.int .i64 x.time) ∧ W.cell? ⟨w.heap.size, 2, none⟩ = some (.string x.call) ∧ W.cell? ⟨w.heap.size, 3, none⟩ = some (.string x.by_) ∧ W.cell? ⟨w.heap.size, 4, none⟩ = some (.string x.to_) ∧ W.cell? ⟨w.heap.size, 5, none⟩ = some (.slice A n cA) ∧ W.cell? ⟨w.heap.size, 6, none⟩ = some (.int .i64 x.wake) ∧ W.cell? ⟨w.heap.size, 7, none⟩ = some (.int .i64 x.slot) ∧ W.cell? ⟨w.heap.size, 8, none⟩ = some (.bool x.lands))) (by kernel_rfl) (HXa.out w1.drew rfl) (fun hHeld => ?_)
   refine wpAnyH_take (i := 0) (oi := ⟨some 34, _, _, _, _, _⟩) (v := ?v0c0) rfl (by kernel_rfl) (by kernel_rfl) (by kernel_rfl) (fun _ _ _ h => h) (Or.inl ⟨by rfl, ?y0c0⟩) hHeld ?r0c0
   case y0c0 => (intro W hSw; (try dsimp only at hSw); (try obtain ⟨s0, s1, s2, s3, s4, s5, s6, s7, s8⟩ := hSw); go_simp; try with_reducible rfl)
   try simp only [Act.put, zI, zO, zS]
   refine wpAnyH_take (i := 1) (oi := ⟨some 35, _, _, _, _, _⟩) (v := ?v1c0) rfl (by kernel_rfl) (by kernel_rfl) (by kernel_rfl) (fun _ _ _ h => h) (Or.inl ⟨by rfl, ?y1c0⟩) hHeld ?r1c0
   case y1c0 => (intro W hSw; (try dsimp only at hSw); (try obtain ⟨s0, s1, s2, s3, s4, s5, s6, s7, s8⟩ := hSw); go_simp; try with_reducible rfl)
   try simp only [Act.put, zI, zO, zS]
   refine wpAnyH_take (i := 2) (oi := ⟨some 36, _, _, _, _, _⟩) (v := ?v2c0) rfl (by kernel_rfl) (by kernel_rfl) (by kernel_rfl) (fun _ _ _ h => h) (Or.inl ⟨by rfl, ?y2c0⟩) hHeld ?r2c0
   case y2c0 => (intro W hSw; (try dsimp only at hSw); (try obtain ⟨s0, s1, s2, s3, s4, s5, s6, s7, s8⟩ := hSw); go_simp; try with_reducible rfl)
   try simp only [Act.put, zI, zO, zS]
   refine wpAnyH_take (i := 3) (oi := ⟨some 37, _, _, _, _, _⟩) (v := ?v3c0) rfl (by kernel_rfl) (by kernel_rfl) (by kernel_rfl) (fun _ _ _ h => h) (Or.inl ⟨by rfl, ?y3c0⟩) hHeld ?r3c0
   case y3c0 => (intro W hSw; (try dsimp only at hSw); (try obtain ⟨s0, s1, s2, s3, s4, s5, s6, s7, s8⟩ := hSw); go_simp; try with_reducible rfl)
   try simp only [Act.put, zI, zO, zS]
   refine wpAnyH_take (i := 4) (oi := ⟨some 38, _, _, _, _, _⟩) (v := ?v4c0) rfl (by kernel_rfl) (by kernel_rfl) (by kernel_rfl) (fun _ _ _ h => h) (Or.inl ⟨by rfl, ?y4c0⟩) hHeld ?r4c0
   case y4c0 => (intro W hSw; (try dsimp only at hSw); (try obtain ⟨s0, s1, s2, s3, s4, s5, s6, s7, s8⟩ := hSw); go_simp; try with_reducible rfl)
   try simp only [Act.put, zI, zO, zS]
   refine wpAnyH_take (i := 5) (oi := ⟨some 39, _, _, _, _, _⟩) (v := ?v5c0) rfl (by kernel_rfl) (by kernel_rfl) (by kernel_rfl) (fun _ _ _ h => h) (Or.inl ⟨by rfl, ?y5c0⟩) hHeld ?r5c0
   case y5c0 => (intro W hSw; (try dsimp only at hSw); (try obtain ⟨s0, s1, s2, s3, s4, s5, s6, s7, s8⟩ := hSw); go_simp; try with_reducible rfl)
   try simp only [Act.put, zI, zO, zS]
   refine wpAnyH_take (i := 6) (oi := ⟨some 40, _, _, _, _, _⟩) (v := ?v6c0) rfl (by kernel_rfl) (by kernel_rfl) (by kernel_rfl) (fun _ _ _ h => h) (Or.inl ⟨by rfl, ?y6c0⟩) hHeld ?r6c0
   case y6c0 => (intro W hSw; (try dsimp only at hSw); (try obtain ⟨s0, s1, s2, s3, s4, s5, s6, s7, s8⟩ := hSw); go_simp; try with_reducible rfl)
   try simp only [Act.put, zI, zO, zS]
   refine wpAnyH_take (i := 7) (oi := ⟨some 41, _, _, _, _, _⟩) (v := ?v7c0) rfl (by kernel_rfl) (by kernel_rfl) (by kernel_rfl) (fun _ _ _ h => h) (Or.inl ⟨by rfl, ?y7c0⟩) hHeld ?r7c0
   case y7c0 => (intro W hSw; (try dsimp only at hSw); (try obtain ⟨s0, s1, s2, s3, s4, s5, s6, s7, s8⟩ := hSw); go_simp; try with_reducible rfl)
   try simp only [Act.put, zI, zO, zS]
   refine wpAnyH_take (i := 8) (oi := ⟨some 42, _, _, _, _, _⟩) (v := ?v8c0) rfl (by kernel_rfl) (by kernel_rfl) (by kernel_rfl) (fun _ _ _ h => h) (Or.inl ⟨by rfl, ?y8c0⟩) hHeld ?r8c0
   case y8c0 => (intro W hSw; (try dsimp only at hSw); (try obtain ⟨s0, s1, s2, s3, s4, s5, s6, s7, s8⟩ := hSw); go_simp; try with_reducible rfl)
   try simp only [Act.put, zI, zO, zS]
   refine wpAnyH_take (i := 9) (oi := ⟨some 43, _, _, _, _, _⟩) (v := ?v9c0) rfl (by kernel_rfl) (by kernel_rfl) (by kernel_rfl) (fun _ _ _ h => h) (Or.inl ⟨by rfl, ?y9c0⟩) hHeld ?r9c0
   case y9c0 => (intro W hSw; (try dsimp only at hSw); (try obtain ⟨s0, s1, s2, s3, s4, s5, s6, s7, s8⟩ := hSw); go_simp; try with_reducible rfl)
   try simp only [Act.put, zI, zO, zS]
   refine wpAnyH_take (i := 10) (oi := ⟨some 44, _, _, _, _, _⟩) (v := ?v10c0) rfl (by kernel_rfl) (by kernel_rfl) (by kernel_rfl) (fun _ _ _ h => h) (Or.inl ⟨by rfl, ?y10c0⟩) hHeld ?r10c0
   case y10c0 => (intro W hSw; (try dsimp only at hSw); (try obtain ⟨s0, s1, s2, s3, s4, s5, s6, s7, s8⟩ := hSw); go_simp; try with_reducible rfl)
   try simp only [Act.put, zI, zO, zS]
   refine wpAnyH_take (i := 11) (oi := ⟨some 45, _, _, _, _, _⟩) (v := ?v11c0) rfl (by kernel_rfl) (by kernel_rfl) (by kernel_rfl) (fun _ _ _ h => h) (Or.inl ⟨by rfl, ?y11c0⟩) hHeld ?r11c0
   case y11c0 => (intro W hSw; (try dsimp only at hSw); (try obtain ⟨s0, s1, s2, s3, s4, s5, s6, s7, s8⟩ := hSw); go_simp; try with_reducible rfl)
   try simp only [Act.put, zI, zO, zS]
   refine wpAnyH_take (i := 12) (oi := ⟨some 46, _, _, _, _, _⟩) (v := ?v12c0) rfl (by kernel_rfl) (by kernel_rfl) (by kernel_rfl) (fun _ _ _ h => h) (Or.inl ⟨by rfl, ?y12c0⟩) hHeld ?r12c0
   case y12c0 => (intro W hSw; (try dsimp only at hSw); (try obtain ⟨s0, s1, s2, s3, s4, s5, s6, s7, s8⟩ := hSw); go_simp; try with_reducible rfl)
   try simp only [Act.put, zI, zO, zS]
   refine wpAnyH_take (i := 13) (oi := ⟨some 47, _, _, _, _, _⟩) (v := ?v13c0) rfl (by kernel_rfl) (by kernel_rfl) (by kernel_rfl) (fun _ _ _ h => h) (Or.inl ⟨by rfl, ?y13c0⟩) hHeld ?r13c0
   case y13c0 => (intro W hSw; (try dsimp only at hSw); (try obtain ⟨s0, s1, s2, s3, s4, s5, s6, s7, s8⟩ := hSw); go_simp; try with_reducible rfl)
   try simp only [Act.put, zI, zO, zS]
   refine wpAnyH_take (i := 14) (oi := ⟨some 48, _, _, _, _, _⟩) (v := ?v14c0) rfl (by kernel_rfl) (by kernel_rfl) (by kernel_rfl) (fun _ _ _ h => h) (Or.inl ⟨by rfl, ?y14c0⟩) hHeld ?r14c0
   case y14c0 => (intro W hSw; (try dsimp only at hSw); (try obtain ⟨s0, s1, s2, s3, s4, s5, s6, s7, s8⟩ := hSw); go_simp; try with_reducible rfl)
   try simp only [Act.put, zI, zO, zS]
   refine wpAnyH_take (i := 15) (oi := ⟨some 49, _, _, _, _, _⟩) (v := ?v15c0) rfl (by kernel_rfl) (by kernel_rfl) (by kernel_rfl) (fun _ _ _ h => h) (Or.inl ⟨by rfl, ?y15c0⟩) hHeld ?r15c0
   case y15c0 => (intro W hSw; (try dsimp only at hSw); (try obtain ⟨s0, s1, s2, s3, s4, s5, s6, s7, s8⟩ := hSw); go_simp; try with_reducible rfl)
   try simp only [Act.put, zI, zO, zS]
   refine wpAnyH_take (i := 16) (oi := ⟨some 50, _, _, _, _, _⟩) (v := ?v16c0) rfl (by kernel_rfl) (by kernel_rfl) (by kernel_rfl) (fun _ _ _ h => h) (Or.inl ⟨by rfl, ?y16c0⟩) hHeld ?r16c0
   case y16c0 => (intro W hSw; (try dsimp only at hSw); (try obtain ⟨s0, s1, s2, s3, s4, s5, s6, s7, s8⟩ := hSw); go_simp; try with_reducible rfl)
   try simp only [Act.put, zI, zO, zS]
   refine wpAnyH_take (i := 17) (oi := ⟨some 51, _, _, _, _, _⟩) (v := ?v17c0) rfl (by kernel_rfl) (by kernel_rfl) (by kernel_rfl) (fun _ _ _ h => h) (Or.inl ⟨by rfl, ?y17c0⟩) hHeld ?r17c0
   case y17c0 => (intro W hSw; (try dsimp only at hSw); (try obtain ⟨s0, s1, s2, s3, s4, s5, s6, s7, s8⟩ := hSw); go_simp; try with_reducible rfl)
   try simp only [Act.put, zI, zO, zS]
   refine wpAnyH_take (i := 18) (oi := ⟨some 52, _, _, _, _, _⟩) (v := ?v18c0) rfl (by kernel_rfl) (by kernel_rfl) (by kernel_rfl) (fun _ _ _ h => h) (Or.inl ⟨by rfl, ?y18c0⟩) hHeld ?r18c0
   case y18c0 => (intro W hSw; (try dsimp only at hSw); (try obtain ⟨s0, s1, s2, s3, s4, s5, s6, s7, s8⟩ := hSw); go_simp; try with_reducible rfl)
   try simp only [Act.put, zI, zO, zS]
   refine wpAnyH_ready (rs := [19]) (by kernel_rfl) (by simp) ?_
   refine (AllReadyH.cons (o := ⟨some 53, _, _, _, _, _⟩) rfl (fun K hK => ?_) AllReadyH.nil)
   go_simp
   go_at_call 63
   (with_reducible refine HCq.out.mono ?_)
   rintro e w3 ⟨rfl, F1, hc1, hof, hsub⟩
   have zB : w3.heap[w.heap.size]? = w1.heap[w.heap.size]? := hof.block w.heap.size hBl hBF
   refine hK.out _ _ (HXa.out w3 zB) (fun hHeld => ?_)
   clear hK K
   try simp only [Act.put, zI, zO, zS]
   refine wpAnyH_ready (rs := [20]) (by kernel_rfl) (by simp) ?_
   refine (AllReadyH.cons (o := ⟨some 5, _, _, _, _, _⟩) rfl (fun K hK => ?_) AllReadyH.nil)
   go_simp
   refine hK.out _ _ (HXa.out w3 zB) (fun hHeld => ?_)
   clear hK K
   try simp only [Act.put, zI, zO, zS]
   refine wpAnyH_done (by kernel_rfl) ?_ _
   go_wp2_with fail
   go_meet
   case rel => exact ⟨rfl, F1, hc1, ⟨hof.os, hof.tape, hof.output, hof.size, hof.block⟩, hsub⟩
  ·have hk' : x.kind = 1 := hk
   have HCq : Hid (Calls Tryz.prog 64 #[.pointer (some ⟨g, 0, none⟩), .agg #[.int .i64 x.kind, .int .i64 x.time, .string x.call, .string x.by_, .string x.to_, .slice A n cA, .int .i64 x.wake, .int .i64 x.slot, .bool x.lands]] w1.drew (fun e w3 => e = .returned (.int .i64 mk) ∧ ∃ F1 : Nat → Prop, CeAt F1 g S d w3 ∧ Off F w1.drew w3 ∧ ∀ b, F1 b → F b ∨ w1.drew.heap.size ≤ b)) := HCk
   clear HCk
   have hix : ∀ W : World, (Instr.index 130 (.agg #[.func (.func 63) #[.pointer (some ⟨g, 0, none⟩)] #[], .func (.func 64) #[.pointer (some ⟨g, 0, none⟩)] #[], .func (.func 65) #[.pointer (some ⟨g, 0, none⟩)] #[], .func (.func 66) #[.pointer (some ⟨g, 0, none⟩)] #[], .func (.func 67) #[.pointer (some ⟨g, 0, none⟩)] #[], .func (.func 68) #[.pointer (some ⟨g, 0, none⟩)] #[], .func (.func 69) #[.pointer (some ⟨g, 0, none⟩)] #[]]) (.int .i64 x.kind)).run Tryz.prog W = .ok (.func (.func 64) #[.pointer (some ⟨g, 0, none⟩)] #[]) W := fun W => by rw [hk']; kernel_rfl
   clear hk' hk hk7
   refine wp_region_held_drew (S := (fun W => W.cell? ⟨w.heap.size, 0, none⟩ = some (.int .i64 x.kind) ∧ W.cell? ⟨w.heap.size, 1, none⟩ = some (.int .i64 x.time) ∧ W.cell? ⟨w.heap.size, 2, none⟩ = some (.string x.call) ∧ W.cell? ⟨w.heap.size, 3, none⟩ = some (.string x.by_) ∧ W.cell? ⟨w.heap.size, 4, none⟩ = some (.string x.to_) ∧ W.cell? ⟨w.heap.size, 5, none⟩ = some (.slice A n cA) ∧ W.cell? ⟨w.heap.size, 6, none⟩ = some (.int .i64 x.wake) ∧ W.cell? ⟨w.heap.size, 7, none⟩ = some (.int .i64 x.slot) ∧ W.cell? ⟨w.heap.size, 8, none⟩ = some (.bool x.lands))) (by kernel_rfl) (HXa.out w1.drew rfl) (fun hHeld => ?_)
   refine wpAnyH_take (i := 0) (oi := ⟨some 34, _, _, _, _, _⟩) (v := ?v0c1) rfl (by kernel_rfl) (by kernel_rfl) (by kernel_rfl) (fun _ _ _ h => h) (Or.inl ⟨by rfl, ?y0c1⟩) hHeld ?r0c1
   case y0c1 => (intro W hSw; (try dsimp only at hSw); (try obtain ⟨s0, s1, s2, s3, s4, s5, s6, s7, s8⟩ := hSw); go_simp; try with_reducible rfl)
   try simp only [Act.put, zI, zO, zS]
   refine wpAnyH_take (i := 1) (oi := ⟨some 35, _, _, _, _, _⟩) (v := ?v1c1) rfl (by kernel_rfl) (by kernel_rfl) (by kernel_rfl) (fun _ _ _ h => h) (Or.inl ⟨by rfl, ?y1c1⟩) hHeld ?r1c1
   case y1c1 => (intro W hSw; (try dsimp only at hSw); (try obtain ⟨s0, s1, s2, s3, s4, s5, s6, s7, s8⟩ := hSw); go_simp; try with_reducible rfl)
   try simp only [Act.put, zI, zO, zS]
   refine wpAnyH_take (i := 2) (oi := ⟨some 36, _, _, _, _, _⟩) (v := ?v2c1) rfl (by kernel_rfl) (by kernel_rfl) (by kernel_rfl) (fun _ _ _ h => h) (Or.inl ⟨by rfl, ?y2c1⟩) hHeld ?r2c1
   case y2c1 => (intro W hSw; (try dsimp only at hSw); (try obtain ⟨s0, s1, s2, s3, s4, s5, s6, s7, s8⟩ := hSw); go_simp; try with_reducible rfl)
   try simp only [Act.put, zI, zO, zS]
   refine wpAnyH_take (i := 3) (oi := ⟨some 37, _, _, _, _, _⟩) (v := ?v3c1) rfl (by kernel_rfl) (by kernel_rfl) (by kernel_rfl) (fun _ _ _ h => h) (Or.inl ⟨by rfl, ?y3c1⟩) hHeld ?r3c1
   case y3c1 => (intro W hSw; (try dsimp only at hSw); (try obtain ⟨s0, s1, s2, s3, s4, s5, s6, s7, s8⟩ := hSw); go_simp; try with_reducible rfl)
   try simp only [Act.put, zI, zO, zS]
   refine wpAnyH_take (i := 4) (oi := ⟨some 38, _, _, _, _, _⟩) (v := ?v4c1) rfl (by kernel_rfl) (by kernel_rfl) (by kernel_rfl) (fun _ _ _ h => h) (Or.inl ⟨by rfl, ?y4c1⟩) hHeld ?r4c1
   case y4c1 => (intro W hSw; (try dsimp only at hSw); (try obtain ⟨s0, s1, s2, s3, s4, s5, s6, s7, s8⟩ := hSw); go_simp; try with_reducible rfl)
   try simp only [Act.put, zI, zO, zS]
   refine wpAnyH_take (i := 5) (oi := ⟨some 39, _, _, _, _, _⟩) (v := ?v5c1) rfl (by kernel_rfl) (by kernel_rfl) (by kernel_rfl) (fun _ _ _ h => h) (Or.inl ⟨by rfl, ?y5c1⟩) hHeld ?r5c1
   case y5c1 => (intro W hSw; (try dsimp only at hSw); (try obtain ⟨s0, s1, s2, s3, s4, s5, s6, s7, s8⟩ := hSw); go_simp; try with_reducible rfl)
   try simp only [Act.put, zI, zO, zS]
   refine wpAnyH_take (i := 6) (oi := ⟨some 40, _, _, _, _, _⟩) (v := ?v6c1) rfl (by kernel_rfl) (by kernel_rfl) (by kernel_rfl) (fun _ _ _ h => h) (Or.inl ⟨by rfl, ?y6c1⟩) hHeld ?r6c1
   case y6c1 => (intro W hSw; (try dsimp only at hSw); (try obtain ⟨s0, s1, s2, s3, s4, s5, s6, s7, s8⟩ := hSw); go_simp; try with_reducible rfl)
   try simp only [Act.put, zI, zO, zS]
   refine wpAnyH_take (i := 7) (oi := ⟨some 41, _, _, _, _, _⟩) (v := ?v7c1) rfl (by kernel_rfl) (by kernel_rfl) (by kernel_rfl) (fun _ _ _ h => h) (Or.inl ⟨by rfl, ?y7c1⟩) hHeld ?r7c1
   case y7c1 => (intro W hSw; (try dsimp only at hSw); (try obtain ⟨s0, s1, s2, s3, s4, s5, s6, s7, s8⟩ := hSw); go_simp; try with_reducible rfl)
   try simp only [Act.put, zI, zO, zS]
   refine wpAnyH_take (i := 8) (oi := ⟨some 42, _, _, _, _, _⟩) (v := ?v8c1) rfl (by kernel_rfl) (by kernel_rfl) (by kernel_rfl) (fun _ _ _ h => h) (Or.inl ⟨by rfl, ?y8c1⟩) hHeld ?r8c1
   case y8c1 => (intro W hSw; (try dsimp only at hSw); (try obtain ⟨s0, s1, s2, s3, s4, s5, s6, s7, s8⟩ := hSw); go_simp; try with_reducible rfl)
   try simp only [Act.put, zI, zO, zS]
   refine wpAnyH_take (i := 9) (oi := ⟨some 43, _, _, _, _, _⟩) (v := ?v9c1) rfl (by kernel_rfl) (by kernel_rfl) (by kernel_rfl) (fun _ _ _ h => h) (Or.inl ⟨by rfl, ?y9c1⟩) hHeld ?r9c1
   case y9c1 => (intro W hSw; (try dsimp only at hSw); (try obtain ⟨s0, s1, s2, s3, s4, s5, s6, s7, s8⟩ := hSw); go_simp; try with_reducible rfl)
   try simp only [Act.put, zI, zO, zS]
   refine wpAnyH_take (i := 10) (oi := ⟨some 44, _, _, _, _, _⟩) (v := ?v10c1) rfl (by kernel_rfl) (by kernel_rfl) (by kernel_rfl) (fun _ _ _ h => h) (Or.inl ⟨by rfl, ?y10c1⟩) hHeld ?r10c1
   case y10c1 => (intro W hSw; (try dsimp only at hSw); (try obtain ⟨s0, s1, s2, s3, s4, s5, s6, s7, s8⟩ := hSw); go_simp; try with_reducible rfl)
   try simp only [Act.put, zI, zO, zS]
   refine wpAnyH_take (i := 11) (oi := ⟨some 45, _, _, _, _, _⟩) (v := ?v11c1) rfl (by kernel_rfl) (by kernel_rfl) (by kernel_rfl) (fun _ _ _ h => h) (Or.inl ⟨by rfl, ?y11c1⟩) hHeld ?r11c1
   case y11c1 => (intro W hSw; (try dsimp only at hSw); (try obtain ⟨s0, s1, s2, s3, s4, s5, s6, s7, s8⟩ := hSw); go_simp; try with_reducible rfl)
   try simp only [Act.put, zI, zO, zS]
   refine wpAnyH_take (i := 12) (oi := ⟨some 46, _, _, _, _, _⟩) (v := ?v12c1) rfl (by kernel_rfl) (by kernel_rfl) (by kernel_rfl) (fun _ _ _ h => h) (Or.inl ⟨by rfl, ?y12c1⟩) hHeld ?r12c1
   case y12c1 => (intro W hSw; (try dsimp only at hSw); (try obtain ⟨s0, s1, s2, s3, s4, s5, s6, s7, s8⟩ := hSw); go_simp; try with_reducible rfl)
   try simp only [Act.put, zI, zO, zS]
   refine wpAnyH_take (i := 13) (oi := ⟨some 47, _, _, _, _, _⟩) (v := ?v13c1) rfl (by kernel_rfl) (by kernel_rfl) (by kernel_rfl) (fun _ _ _ h => h) (Or.inl ⟨by rfl, ?y13c1⟩) hHeld ?r13c1
   case y13c1 => (intro W hSw; (try dsimp only at hSw); (try obtain ⟨s0, s1, s2, s3, s4, s5, s6, s7, s8⟩ := hSw); go_simp; try with_reducible rfl)
   try simp only [Act.put, zI, zO, zS]
   refine wpAnyH_take (i := 14) (oi := ⟨some 48, _, _, _, _, _⟩) (v := ?v14c1) rfl (by kernel_rfl) (by kernel_rfl) (by kernel_rfl) (fun _ _ _ h => h) (Or.inl ⟨by rfl, ?y14c1⟩) hHeld ?r14c1
   case y14c1 => (intro W hSw; (try dsimp only at hSw); (try obtain ⟨s0, s1, s2, s3, s4, s5, s6, s7, s8⟩ := hSw); go_simp; try with_reducible rfl)
   try simp only [Act.put, zI, zO, zS]
   refine wpAnyH_take (i := 15) (oi := ⟨some 49, _, _, _, _, _⟩) (v := ?v15c1) rfl (by kernel_rfl) (by kernel_rfl) (by kernel_rfl) (fun _ _ _ h => h) (Or.inl ⟨by rfl, ?y15c1⟩) hHeld ?r15c1
   case y15c1 => (intro W hSw; (try dsimp only at hSw); (try obtain ⟨s0, s1, s2, s3, s4, s5, s6, s7, s8⟩ := hSw); go_simp; try with_reducible rfl)
   try simp only [Act.put, zI, zO, zS]
   refine wpAnyH_take (i := 16) (oi := ⟨some 50, _, _, _, _, _⟩) (v := ?v16c1) rfl (by kernel_rfl) (by kernel_rfl) (by kernel_rfl) (fun _ _ _ h => h) (Or.inl ⟨by rfl, ?y16c1⟩) hHeld ?r16c1
   case y16c1 => (intro W hSw; (try dsimp only at hSw); (try obtain ⟨s0, s1, s2, s3, s4, s5, s6, s7, s8⟩ := hSw); go_simp; try with_reducible rfl)
   try simp only [Act.put, zI, zO, zS]
   refine wpAnyH_take (i := 17) (oi := ⟨some 51, _, _, _, _, _⟩) (v := ?v17c1) rfl (by kernel_rfl) (by kernel_rfl) (by kernel_rfl) (fun _ _ _ h => h) (Or.inl ⟨by rfl, ?y17c1⟩) hHeld ?r17c1
   case y17c1 => (intro W hSw; (try dsimp only at hSw); (try obtain ⟨s0, s1, s2, s3, s4, s5, s6, s7, s8⟩ := hSw); go_simp; try with_reducible rfl)
   try simp only [Act.put, zI, zO, zS]
   refine wpAnyH_take (i := 18) (oi := ⟨some 52, _, _, _, _, _⟩) (v := ?v18c1) rfl (by kernel_rfl) (by kernel_rfl) (by kernel_rfl) (fun _ _ _ h => h) (Or.inl ⟨by rfl, ?y18c1⟩) hHeld ?r18c1
   case y18c1 => (intro W hSw; (try dsimp only at hSw); (try obtain ⟨s0, s1, s2, s3, s4, s5, s6, s7, s8⟩ := hSw); go_simp; try with_reducible rfl)
   try simp only [Act.put, zI, zO, zS]
   refine wpAnyH_ready (rs := [19]) (by kernel_rfl) (by simp) ?_
   refine (AllReadyH.cons (o := ⟨some 53, _, _, _, _, _⟩) rfl (fun K hK => ?_) AllReadyH.nil)
   go_simp
   go_at_call 64
   (with_reducible refine HCq.out.mono ?_)
   rintro e w3 ⟨rfl, F1, hc1, hof, hsub⟩
   have zB : w3.heap[w.heap.size]? = w1.heap[w.heap.size]? := hof.block w.heap.size hBl hBF
   refine hK.out _ _ (HXa.out w3 zB) (fun hHeld => ?_)
   clear hK K
   try simp only [Act.put, zI, zO, zS]
   refine wpAnyH_ready (rs := [20]) (by kernel_rfl) (by simp) ?_
   refine (AllReadyH.cons (o := ⟨some 5, _, _, _, _, _⟩) rfl (fun K hK => ?_) AllReadyH.nil)
   go_simp
   refine hK.out _ _ (HXa.out w3 zB) (fun hHeld => ?_)
   clear hK K
   try simp only [Act.put, zI, zO, zS]
   refine wpAnyH_done (by kernel_rfl) ?_ _
   go_wp2_with fail
   go_meet
   case rel => exact ⟨rfl, F1, hc1, ⟨hof.os, hof.tape, hof.output, hof.size, hof.block⟩, hsub⟩
  ·have hk' : x.kind = 2 := hk
   have HCq : Hid (Calls Tryz.prog 65 #[.pointer (some ⟨g, 0, none⟩), .agg #[.int .i64 x.kind, .int .i64 x.time, .string x.call, .string x.by_, .string x.to_, .slice A n cA, .int .i64 x.wake, .int .i64 x.slot, .bool x.lands]] w1.drew (fun e w3 => e = .returned (.int .i64 mk) ∧ ∃ F1 : Nat → Prop, CeAt F1 g S d w3 ∧ Off F w1.drew w3 ∧ ∀ b, F1 b → F b ∨ w1.drew.heap.size ≤ b)) := HCk
   clear HCk
   have hix : ∀ W : World, (Instr.index 130 (.agg #[.func (.func 63) #[.pointer (some ⟨g, 0, none⟩)] #[], .func (.func 64) #[.pointer (some ⟨g, 0, none⟩)] #[], .func (.func 65) #[.pointer (some ⟨g, 0, none⟩)] #[], .func (.func 66) #[.pointer (some ⟨g, 0, none⟩)] #[], .func (.func 67) #[.pointer (some ⟨g, 0, none⟩)] #[], .func (.func 68) #[.pointer (some ⟨g, 0, none⟩)] #[], .func (.func 69) #[.pointer (some ⟨g, 0, none⟩)] #[]]) (.int .i64 x.kind)).run Tryz.prog W = .ok (.func (.func 65) #[.pointer (some ⟨g, 0, none⟩)] #[]) W := fun W => by rw [hk']; kernel_rfl
   clear hk' hk hk7
   refine wp_region_held_drew (S := (fun W => W.cell? ⟨w.heap.size, 0, none⟩ = some (.int .i64 x.kind) ∧ W.cell? ⟨w.heap.size, 1, none⟩ = some (.int .i64 x.time) ∧ W.cell? ⟨w.heap.size, 2, none⟩ = some (.string x.call) ∧ W.cell? ⟨w.heap.size, 3, none⟩ = some (.string x.by_) ∧ W.cell? ⟨w.heap.size, 4, none⟩ = some (.string x.to_) ∧ W.cell? ⟨w.heap.size, 5, none⟩ = some (.slice A n cA) ∧ W.cell? ⟨w.heap.size, 6, none⟩ = some (.int .i64 x.wake) ∧ W.cell? ⟨w.heap.size, 7, none⟩ = some (.int .i64 x.slot) ∧ W.cell? ⟨w.heap.size, 8, none⟩ = some (.bool x.lands))) (by kernel_rfl) (HXa.out w1.drew rfl) (fun hHeld => ?_)
   refine wpAnyH_take (i := 0) (oi := ⟨some 34, _, _, _, _, _⟩) (v := ?v0c2) rfl (by kernel_rfl) (by kernel_rfl) (by kernel_rfl) (fun _ _ _ h => h) (Or.inl ⟨by rfl, ?y0c2⟩) hHeld ?r0c2
   case y0c2 => (intro W hSw; (try dsimp only at hSw); (try obtain ⟨s0, s1, s2, s3, s4, s5, s6, s7, s8⟩ := hSw); go_simp; try with_reducible rfl)
   try simp only [Act.put, zI, zO, zS]
   refine wpAnyH_take (i := 1) (oi := ⟨some 35, _, _, _, _, _⟩) (v := ?v1c2) rfl (by kernel_rfl) (by kernel_rfl) (by kernel_rfl) (fun _ _ _ h => h) (Or.inl ⟨by rfl, ?y1c2⟩) hHeld ?r1c2
   case y1c2 => (intro W hSw; (try dsimp only at hSw); (try obtain ⟨s0, s1, s2, s3, s4, s5, s6, s7, s8⟩ := hSw); go_simp; try with_reducible rfl)
   try simp only [Act.put, zI, zO, zS]
   refine wpAnyH_take (i := 2) (oi := ⟨some 36, _, _, _, _, _⟩) (v := ?v2c2) rfl (by kernel_rfl) (by kernel_rfl) (by kernel_rfl) (fun _ _ _ h => h) (Or.inl ⟨by rfl, ?y2c2⟩) hHeld ?r2c2
   case y2c2 => (intro W hSw; (try dsimp only at hSw); (try obtain ⟨s0, s1, s2, s3, s4, s5, s6, s7, s8⟩ := hSw); go_simp; try with_reducible rfl)
   try simp only [Act.put, zI, zO, zS]
   refine wpAnyH_take (i := 3) (oi := ⟨some 37, _, _, _, _, _⟩) (v := ?v3c2) rfl (by kernel_rfl) (by kernel_rfl) (by kernel_rfl) (fun _ _ _ h => h) (Or.inl ⟨by rfl, ?y3c2⟩) hHeld ?r3c2
   case y3c2 => (intro W hSw; (try dsimp only at hSw); (try obtain ⟨s0, s1, s2, s3, s4, s5, s6, s7, s8⟩ := hSw); go_simp; try with_reducible rfl)
   try simp only [Act.put, zI, zO, zS]
   refine wpAnyH_take (i := 4) (oi := ⟨some 38, _, _, _, _, _⟩) (v := ?v4c2) rfl (by kernel_rfl) (by kernel_rfl) (by kernel_rfl) (fun _ _ _ h => h) (Or.inl ⟨by rfl, ?y4c2⟩) hHeld ?r4c2
   case y4c2 => (intro W hSw; (try dsimp only at hSw); (try obtain ⟨s0, s1, s2, s3, s4, s5, s6, s7, s8⟩ := hSw); go_simp; try with_reducible rfl)
   try simp only [Act.put, zI, zO, zS]
   refine wpAnyH_take (i := 5) (oi := ⟨some 39, _, _, _, _, _⟩) (v := ?v5c2) rfl (by kernel_rfl) (by kernel_rfl) (by kernel_rfl) (fun _ _ _ h => h) (Or.inl ⟨by rfl, ?y5c2⟩) hHeld ?r5c2
   case y5c2 => (intro W hSw; (try dsimp only at hSw); (try obtain ⟨s0, s1, s2, s3, s4, s5, s6, s7, s8⟩ := hSw); go_simp; try with_reducible rfl)
   try simp only [Act.put, zI, zO, zS]
   refine wpAnyH_take (i := 6) (oi := ⟨some 40, _, _, _, _, _⟩) (v := ?v6c2) rfl (by kernel_rfl) (by kernel_rfl) (by kernel_rfl) (fun _ _ _ h => h) (Or.inl ⟨by rfl, ?y6c2⟩) hHeld ?r6c2
   case y6c2 => (intro W hSw; (try dsimp only at hSw); (try obtain ⟨s0, s1, s2, s3, s4, s5, s6, s7, s8⟩ := hSw); go_simp; try with_reducible rfl)
   try simp only [Act.put, zI, zO, zS]
   refine wpAnyH_take (i := 7) (oi := ⟨some 41, _, _, _, _, _⟩) (v := ?v7c2) rfl (by kernel_rfl) (by kernel_rfl) (by kernel_rfl) (fun _ _ _ h => h) (Or.inl ⟨by rfl, ?y7c2⟩) hHeld ?r7c2
   case y7c2 => (intro W hSw; (try dsimp only at hSw); (try obtain ⟨s0, s1, s2, s3, s4, s5, s6, s7, s8⟩ := hSw); go_simp; try with_reducible rfl)
   try simp only [Act.put, zI, zO, zS]
   refine wpAnyH_take (i := 8) (oi := ⟨some 42, _, _, _, _, _⟩) (v := ?v8c2) rfl (by kernel_rfl) (by kernel_rfl) (by kernel_rfl) (fun _ _ _ h => h) (Or.inl ⟨by rfl, ?y8c2⟩) hHeld ?r8c2
   case y8c2 => (intro W hSw; (try dsimp only at hSw); (try obtain ⟨s0, s1, s2, s3, s4, s5, s6, s7, s8⟩ := hSw); go_simp; try with_reducible rfl)
   try simp only [Act.put, zI, zO, zS]
   refine wpAnyH_take (i := 9) (oi := ⟨some 43, _, _, _, _, _⟩) (v := ?v9c2) rfl (by kernel_rfl) (by kernel_rfl) (by kernel_rfl) (fun _ _ _ h => h) (Or.inl ⟨by rfl, ?y9c2⟩) hHeld ?r9c2
   case y9c2 => (intro W hSw; (try dsimp only at hSw); (try obtain ⟨s0, s1, s2, s3, s4, s5, s6, s7, s8⟩ := hSw); go_simp; try with_reducible rfl)
   try simp only [Act.put, zI, zO, zS]
   refine wpAnyH_take (i := 10) (oi := ⟨some 44, _, _, _, _, _⟩) (v := ?v10c2) rfl (by kernel_rfl) (by kernel_rfl) (by kernel_rfl) (fun _ _ _ h => h) (Or.inl ⟨by rfl, ?y10c2⟩) hHeld ?r10c2
   case y10c2 => (intro W hSw; (try dsimp only at hSw); (try obtain ⟨s0, s1, s2, s3, s4, s5, s6, s7, s8⟩ := hSw); go_simp; try with_reducible rfl)
   try simp only [Act.put, zI, zO, zS]
   refine wpAnyH_take (i := 11) (oi := ⟨some 45, _, _, _, _, _⟩) (v := ?v11c2) rfl (by kernel_rfl) (by kernel_rfl) (by kernel_rfl) (fun _ _ _ h => h) (Or.inl ⟨by rfl, ?y11c2⟩) hHeld ?r11c2
   case y11c2 => (intro W hSw; (try dsimp only at hSw); (try obtain ⟨s0, s1, s2, s3, s4, s5, s6, s7, s8⟩ := hSw); go_simp; try with_reducible rfl)
   try simp only [Act.put, zI, zO, zS]
   refine wpAnyH_take (i := 12) (oi := ⟨some 46, _, _, _, _, _⟩) (v := ?v12c2) rfl (by kernel_rfl) (by kernel_rfl) (by kernel_rfl) (fun _ _ _ h => h) (Or.inl ⟨by rfl, ?y12c2⟩) hHeld ?r12c2
   case y12c2 => (intro W hSw; (try dsimp only at hSw); (try obtain ⟨s0, s1, s2, s3, s4, s5, s6, s7, s8⟩ := hSw); go_simp; try with_reducible rfl)
   try simp only [Act.put, zI, zO, zS]
   refine wpAnyH_take (i := 13) (oi := ⟨some 47, _, _, _, _, _⟩) (v := ?v13c2) rfl (by kernel_rfl) (by kernel_rfl) (by kernel_rfl) (fun _ _ _ h => h) (Or.inl ⟨by rfl, ?y13c2⟩) hHeld ?r13c2
   case y13c2 => (intro W hSw; (try dsimp only at hSw); (try obtain ⟨s0, s1, s2, s3, s4, s5, s6, s7, s8⟩ := hSw); go_simp; try with_reducible rfl)
   try simp only [Act.put, zI, zO, zS]
   refine wpAnyH_take (i := 14) (oi := ⟨some 48, _, _, _, _, _⟩) (v := ?v14c2) rfl (by kernel_rfl) (by kernel_rfl) (by kernel_rfl) (fun _ _ _ h => h) (Or.inl ⟨by rfl, ?y14c2⟩) hHeld ?r14c2
   case y14c2 => (intro W hSw; (try dsimp only at hSw); (try obtain ⟨s0, s1, s2, s3, s4, s5, s6, s7, s8⟩ := hSw); go_simp; try with_reducible rfl)
   try simp only [Act.put, zI, zO, zS]
   refine wpAnyH_take (i := 15) (oi := ⟨some 49, _, _, _, _, _⟩) (v := ?v15c2) rfl (by kernel_rfl) (by kernel_rfl) (by kernel_rfl) (fun _ _ _ h => h) (Or.inl ⟨by rfl, ?y15c2⟩) hHeld ?r15c2
   case y15c2 => (intro W hSw; (try dsimp only at hSw); (try obtain ⟨s0, s1, s2, s3, s4, s5, s6, s7, s8⟩ := hSw); go_simp; try with_reducible rfl)
   try simp only [Act.put, zI, zO, zS]
   refine wpAnyH_take (i := 16) (oi := ⟨some 50, _, _, _, _, _⟩) (v := ?v16c2) rfl (by kernel_rfl) (by kernel_rfl) (by kernel_rfl) (fun _ _ _ h => h) (Or.inl ⟨by rfl, ?y16c2⟩) hHeld ?r16c2
   case y16c2 => (intro W hSw; (try dsimp only at hSw); (try obtain ⟨s0, s1, s2, s3, s4, s5, s6, s7, s8⟩ := hSw); go_simp; try with_reducible rfl)
   try simp only [Act.put, zI, zO, zS]
   refine wpAnyH_take (i := 17) (oi := ⟨some 51, _, _, _, _, _⟩) (v := ?v17c2) rfl (by kernel_rfl) (by kernel_rfl) (by kernel_rfl) (fun _ _ _ h => h) (Or.inl ⟨by rfl, ?y17c2⟩) hHeld ?r17c2
   case y17c2 => (intro W hSw; (try dsimp only at hSw); (try obtain ⟨s0, s1, s2, s3, s4, s5, s6, s7, s8⟩ := hSw); go_simp; try with_reducible rfl)
   try simp only [Act.put, zI, zO, zS]
   refine wpAnyH_take (i := 18) (oi := ⟨some 52, _, _, _, _, _⟩) (v := ?v18c2) rfl (by kernel_rfl) (by kernel_rfl) (by kernel_rfl) (fun _ _ _ h => h) (Or.inl ⟨by rfl, ?y18c2⟩) hHeld ?r18c2
   case y18c2 => (intro W hSw; (try dsimp only at hSw); (try obtain ⟨s0, s1, s2, s3, s4, s5, s6, s7, s8⟩ := hSw); go_simp; try with_reducible rfl)
   try simp only [Act.put, zI, zO, zS]
   refine wpAnyH_ready (rs := [19]) (by kernel_rfl) (by simp) ?_
   refine (AllReadyH.cons (o := ⟨some 53, _, _, _, _, _⟩) rfl (fun K hK => ?_) AllReadyH.nil)
   go_simp
   go_at_call 65
   (with_reducible refine HCq.out.mono ?_)
   rintro e w3 ⟨rfl, F1, hc1, hof, hsub⟩
   have zB : w3.heap[w.heap.size]? = w1.heap[w.heap.size]? := hof.block w.heap.size hBl hBF
   refine hK.out _ _ (HXa.out w3 zB) (fun hHeld => ?_)
   clear hK K
   try simp only [Act.put, zI, zO, zS]
   refine wpAnyH_ready (rs := [20]) (by kernel_rfl) (by simp) ?_
   refine (AllReadyH.cons (o := ⟨some 5, _, _, _, _, _⟩) rfl (fun K hK => ?_) AllReadyH.nil)
   go_simp
   refine hK.out _ _ (HXa.out w3 zB) (fun hHeld => ?_)
   clear hK K
   try simp only [Act.put, zI, zO, zS]
   refine wpAnyH_done (by kernel_rfl) ?_ _
   go_wp2_with fail
   go_meet
   case rel => exact ⟨rfl, F1, hc1, ⟨hof.os, hof.tape, hof.output, hof.size, hof.block⟩, hsub⟩
  ·have hk' : x.kind = 3 := hk
   have HCq : Hid (Calls Tryz.prog 66 #[.pointer (some ⟨g, 0, none⟩), .agg #[.int .i64 x.kind, .int .i64 x.time, .string x.call, .string x.by_, .string x.to_, .slice A n cA, .int .i64 x.wake, .int .i64 x.slot, .bool x.lands]] w1.drew (fun e w3 => e = .returned (.int .i64 mk) ∧ ∃ F1 : Nat → Prop, CeAt F1 g S d w3 ∧ Off F w1.drew w3 ∧ ∀ b, F1 b → F b ∨ w1.drew.heap.size ≤ b)) := HCk
   clear HCk
   have hix : ∀ W : World, (Instr.index 130 (.agg #[.func (.func 63) #[.pointer (some ⟨g, 0, none⟩)] #[], .func (.func 64) #[.pointer (some ⟨g, 0, none⟩)] #[], .func (.func 65) #[.pointer (some ⟨g, 0, none⟩)] #[], .func (.func 66) #[.pointer (some ⟨g, 0, none⟩)] #[], .func (.func 67) #[.pointer (some ⟨g, 0, none⟩)] #[], .func (.func 68) #[.pointer (some ⟨g, 0, none⟩)] #[], .func (.func 69) #[.pointer (some ⟨g, 0, none⟩)] #[]]) (.int .i64 x.kind)).run Tryz.prog W = .ok (.func (.func 66) #[.pointer (some ⟨g, 0, none⟩)] #[]) W := fun W => by rw [hk']; kernel_rfl
   clear hk' hk hk7
   refine wp_region_held_drew (S := (fun W => W.cell? ⟨w.heap.size, 0, none⟩ = some (.int .i64 x.kind) ∧ W.cell? ⟨w.heap.size, 1, none⟩ = some (.int .i64 x.time) ∧ W.cell? ⟨w.heap.size, 2, none⟩ = some (.string x.call) ∧ W.cell? ⟨w.heap.size, 3, none⟩ = some (.string x.by_) ∧ W.cell? ⟨w.heap.size, 4, none⟩ = some (.string x.to_) ∧ W.cell? ⟨w.heap.size, 5, none⟩ = some (.slice A n cA) ∧ W.cell? ⟨w.heap.size, 6, none⟩ = some (.int .i64 x.wake) ∧ W.cell? ⟨w.heap.size, 7, none⟩ = some (.int .i64 x.slot) ∧ W.cell? ⟨w.heap.size, 8, none⟩ = some (.bool x.lands))) (by kernel_rfl) (HXa.out w1.drew rfl) (fun hHeld => ?_)
   refine wpAnyH_take (i := 0) (oi := ⟨some 34, _, _, _, _, _⟩) (v := ?v0c3) rfl (by kernel_rfl) (by kernel_rfl) (by kernel_rfl) (fun _ _ _ h => h) (Or.inl ⟨by rfl, ?y0c3⟩) hHeld ?r0c3
   case y0c3 => (intro W hSw; (try dsimp only at hSw); (try obtain ⟨s0, s1, s2, s3, s4, s5, s6, s7, s8⟩ := hSw); go_simp; try with_reducible rfl)
   try simp only [Act.put, zI, zO, zS]
   refine wpAnyH_take (i := 1) (oi := ⟨some 35, _, _, _, _, _⟩) (v := ?v1c3) rfl (by kernel_rfl) (by kernel_rfl) (by kernel_rfl) (fun _ _ _ h => h) (Or.inl ⟨by rfl, ?y1c3⟩) hHeld ?r1c3
   case y1c3 => (intro W hSw; (try dsimp only at hSw); (try obtain ⟨s0, s1, s2, s3, s4, s5, s6, s7, s8⟩ := hSw); go_simp; try with_reducible rfl)
   try simp only [Act.put, zI, zO, zS]
   refine wpAnyH_take (i := 2) (oi := ⟨some 36, _, _, _, _, _⟩) (v := ?v2c3) rfl (by kernel_rfl) (by kernel_rfl) (by kernel_rfl) (fun _ _ _ h => h) (Or.inl ⟨by rfl, ?y2c3⟩) hHeld ?r2c3
   case y2c3 => (intro W hSw; (try dsimp only at hSw); (try obtain ⟨s0, s1, s2, s3, s4, s5, s6, s7, s8⟩ := hSw); go_simp; try with_reducible rfl)
   try simp only [Act.put, zI, zO, zS]
   refine wpAnyH_take (i := 3) (oi := ⟨some 37, _, _, _, _, _⟩) (v := ?v3c3) rfl (by kernel_rfl) (by kernel_rfl) (by kernel_rfl) (fun _ _ _ h => h) (Or.inl ⟨by rfl, ?y3c3⟩) hHeld ?r3c3
   case y3c3 => (intro W hSw; (try dsimp only at hSw); (try obtain ⟨s0, s1, s2, s3, s4, s5, s6, s7, s8⟩ := hSw); go_simp; try with_reducible rfl)
   try simp only [Act.put, zI, zO, zS]
   refine wpAnyH_take (i := 4) (oi := ⟨some 38, _, _, _, _, _⟩) (v := ?v4c3) rfl (by kernel_rfl) (by kernel_rfl) (by kernel_rfl) (fun _ _ _ h => h) (Or.inl ⟨by rfl, ?y4c3⟩) hHeld ?r4c3
   case y4c3 => (intro W hSw; (try dsimp only at hSw); (try obtain ⟨s0, s1, s2, s3, s4, s5, s6, s7, s8⟩ := hSw); go_simp; try with_reducible rfl)
   try simp only [Act.put, zI, zO, zS]
   refine wpAnyH_take (i := 5) (oi := ⟨some 39, _, _, _, _, _⟩) (v := ?v5c3) rfl (by kernel_rfl) (by kernel_rfl) (by kernel_rfl) (fun _ _ _ h => h) (Or.inl ⟨by rfl, ?y5c3⟩) hHeld ?r5c3
   case y5c3 => (intro W hSw; (try dsimp only at hSw); (try obtain ⟨s0, s1, s2, s3, s4, s5, s6, s7, s8⟩ := hSw); go_simp; try with_reducible rfl)
   try simp only [Act.put, zI, zO, zS]
   refine wpAnyH_take (i := 6) (oi := ⟨some 40, _, _, _, _, _⟩) (v := ?v6c3) rfl (by kernel_rfl) (by kernel_rfl) (by kernel_rfl) (fun _ _ _ h => h) (Or.inl ⟨by rfl, ?y6c3⟩) hHeld ?r6c3
   case y6c3 => (intro W hSw; (try dsimp only at hSw); (try obtain ⟨s0, s1, s2, s3, s4, s5, s6, s7, s8⟩ := hSw); go_simp; try with_reducible rfl)
   try simp only [Act.put, zI, zO, zS]
   refine wpAnyH_take (i := 7) (oi := ⟨some 41, _, _, _, _, _⟩) (v := ?v7c3) rfl (by kernel_rfl) (by kernel_rfl) (by kernel_rfl) (fun _ _ _ h => h) (Or.inl ⟨by rfl, ?y7c3⟩) hHeld ?r7c3
   case y7c3 => (intro W hSw; (try dsimp only at hSw); (try obtain ⟨s0, s1, s2, s3, s4, s5, s6, s7, s8⟩ := hSw); go_simp; try with_reducible rfl)
   try simp only [Act.put, zI, zO, zS]
   refine wpAnyH_take (i := 8) (oi := ⟨some 42, _, _, _, _, _⟩) (v := ?v8c3) rfl (by kernel_rfl) (by kernel_rfl) (by kernel_rfl) (fun _ _ _ h => h) (Or.inl ⟨by rfl, ?y8c3⟩) hHeld ?r8c3
   case y8c3 => (intro W hSw; (try dsimp only at hSw); (try obtain ⟨s0, s1, s2, s3, s4, s5, s6, s7, s8⟩ := hSw); go_simp; try with_reducible rfl)
   try simp only [Act.put, zI, zO, zS]
   refine wpAnyH_take (i := 9) (oi := ⟨some 43, _, _, _, _, _⟩) (v := ?v9c3) rfl (by kernel_rfl) (by kernel_rfl) (by kernel_rfl) (fun _ _ _ h => h) (Or.inl ⟨by rfl, ?y9c3⟩) hHeld ?r9c3
   case y9c3 => (intro W hSw; (try dsimp only at hSw); (try obtain ⟨s0, s1, s2, s3, s4, s5, s6, s7, s8⟩ := hSw); go_simp; try with_reducible rfl)
   try simp only [Act.put, zI, zO, zS]
   refine wpAnyH_take (i := 10) (oi := ⟨some 44, _, _, _, _, _⟩) (v := ?v10c3) rfl (by kernel_rfl) (by kernel_rfl) (by kernel_rfl) (fun _ _ _ h => h) (Or.inl ⟨by rfl, ?y10c3⟩) hHeld ?r10c3
   case y10c3 => (intro W hSw; (try dsimp only at hSw); (try obtain ⟨s0, s1, s2, s3, s4, s5, s6, s7, s8⟩ := hSw); go_simp; try with_reducible rfl)
   try simp only [Act.put, zI, zO, zS]
   refine wpAnyH_take (i := 11) (oi := ⟨some 45, _, _, _, _, _⟩) (v := ?v11c3) rfl (by kernel_rfl) (by kernel_rfl) (by kernel_rfl) (fun _ _ _ h => h) (Or.inl ⟨by rfl, ?y11c3⟩) hHeld ?r11c3
   case y11c3 => (intro W hSw; (try dsimp only at hSw); (try obtain ⟨s0, s1, s2, s3, s4, s5, s6, s7, s8⟩ := hSw); go_simp; try with_reducible rfl)
   try simp only [Act.put, zI, zO, zS]
   refine wpAnyH_take (i := 12) (oi := ⟨some 46, _, _, _, _, _⟩) (v := ?v12c3) rfl (by kernel_rfl) (by kernel_rfl) (by kernel_rfl) (fun _ _ _ h => h) (Or.inl ⟨by rfl, ?y12c3⟩) hHeld ?r12c3
   case y12c3 => (intro W hSw; (try dsimp only at hSw); (try obtain ⟨s0, s1, s2, s3, s4, s5, s6, s7, s8⟩ := hSw); go_simp; try with_reducible rfl)
   try simp only [Act.put, zI, zO, zS]
   refine wpAnyH_take (i := 13) (oi := ⟨some 47, _, _, _, _, _⟩) (v := ?v13c3) rfl (by kernel_rfl) (by kernel_rfl) (by kernel_rfl) (fun _ _ _ h => h) (Or.inl ⟨by rfl, ?y13c3⟩) hHeld ?r13c3
   case y13c3 => (intro W hSw; (try dsimp only at hSw); (try obtain ⟨s0, s1, s2, s3, s4, s5, s6, s7, s8⟩ := hSw); go_simp; try with_reducible rfl)
   try simp only [Act.put, zI, zO, zS]
   refine wpAnyH_take (i := 14) (oi := ⟨some 48, _, _, _, _, _⟩) (v := ?v14c3) rfl (by kernel_rfl) (by kernel_rfl) (by kernel_rfl) (fun _ _ _ h => h) (Or.inl ⟨by rfl, ?y14c3⟩) hHeld ?r14c3
   case y14c3 => (intro W hSw; (try dsimp only at hSw); (try obtain ⟨s0, s1, s2, s3, s4, s5, s6, s7, s8⟩ := hSw); go_simp; try with_reducible rfl)
   try simp only [Act.put, zI, zO, zS]
   refine wpAnyH_take (i := 15) (oi := ⟨some 49, _, _, _, _, _⟩) (v := ?v15c3) rfl (by kernel_rfl) (by kernel_rfl) (by kernel_rfl) (fun _ _ _ h => h) (Or.inl ⟨by rfl, ?y15c3⟩) hHeld ?r15c3
   case y15c3 => (intro W hSw; (try dsimp only at hSw); (try obtain ⟨s0, s1, s2, s3, s4, s5, s6, s7, s8⟩ := hSw); go_simp; try with_reducible rfl)
   try simp only [Act.put, zI, zO, zS]
   refine wpAnyH_take (i := 16) (oi := ⟨some 50, _, _, _, _, _⟩) (v := ?v16c3) rfl (by kernel_rfl) (by kernel_rfl) (by kernel_rfl) (fun _ _ _ h => h) (Or.inl ⟨by rfl, ?y16c3⟩) hHeld ?r16c3
   case y16c3 => (intro W hSw; (try dsimp only at hSw); (try obtain ⟨s0, s1, s2, s3, s4, s5, s6, s7, s8⟩ := hSw); go_simp; try with_reducible rfl)
   try simp only [Act.put, zI, zO, zS]
   refine wpAnyH_take (i := 17) (oi := ⟨some 51, _, _, _, _, _⟩) (v := ?v17c3) rfl (by kernel_rfl) (by kernel_rfl) (by kernel_rfl) (fun _ _ _ h => h) (Or.inl ⟨by rfl, ?y17c3⟩) hHeld ?r17c3
   case y17c3 => (intro W hSw; (try dsimp only at hSw); (try obtain ⟨s0, s1, s2, s3, s4, s5, s6, s7, s8⟩ := hSw); go_simp; try with_reducible rfl)
   try simp only [Act.put, zI, zO, zS]
   refine wpAnyH_take (i := 18) (oi := ⟨some 52, _, _, _, _, _⟩) (v := ?v18c3) rfl (by kernel_rfl) (by kernel_rfl) (by kernel_rfl) (fun _ _ _ h => h) (Or.inl ⟨by rfl, ?y18c3⟩) hHeld ?r18c3
   case y18c3 => (intro W hSw; (try dsimp only at hSw); (try obtain ⟨s0, s1, s2, s3, s4, s5, s6, s7, s8⟩ := hSw); go_simp; try with_reducible rfl)
   try simp only [Act.put, zI, zO, zS]
   refine wpAnyH_ready (rs := [19]) (by kernel_rfl) (by simp) ?_
   refine (AllReadyH.cons (o := ⟨some 53, _, _, _, _, _⟩) rfl (fun K hK => ?_) AllReadyH.nil)
   go_simp
   go_at_call 66
   (with_reducible refine HCq.out.mono ?_)
   rintro e w3 ⟨rfl, F1, hc1, hof, hsub⟩
   have zB : w3.heap[w.heap.size]? = w1.heap[w.heap.size]? := hof.block w.heap.size hBl hBF
   refine hK.out _ _ (HXa.out w3 zB) (fun hHeld => ?_)
   clear hK K
   try simp only [Act.put, zI, zO, zS]
   refine wpAnyH_ready (rs := [20]) (by kernel_rfl) (by simp) ?_
   refine (AllReadyH.cons (o := ⟨some 5, _, _, _, _, _⟩) rfl (fun K hK => ?_) AllReadyH.nil)
   go_simp
   refine hK.out _ _ (HXa.out w3 zB) (fun hHeld => ?_)
   clear hK K
   try simp only [Act.put, zI, zO, zS]
   refine wpAnyH_done (by kernel_rfl) ?_ _
   go_wp2_with fail
   go_meet
   case rel => exact ⟨rfl, F1, hc1, ⟨hof.os, hof.tape, hof.output, hof.size, hof.block⟩, hsub⟩
  ·have hk' : x.kind = 4 := hk
   have HCq : Hid (Calls Tryz.prog 67 #[.pointer (some ⟨g, 0, none⟩), .agg #[.int .i64 x.kind, .int .i64 x.time, .string x.call, .string x.by_, .string x.to_, .slice A n cA, .int .i64 x.wake, .int .i64 x.slot, .bool x.lands]] w1.drew (fun e w3 => e = .returned (.int .i64 mk) ∧ ∃ F1 : Nat → Prop, CeAt F1 g S d w3 ∧ Off F w1.drew w3 ∧ ∀ b, F1 b → F b ∨ w1.drew.heap.size ≤ b)) := HCk
   clear HCk
   have hix : ∀ W : World, (Instr.index 130 (.agg #[.func (.func 63) #[.pointer (some ⟨g, 0, none⟩)] #[], .func (.func 64) #[.pointer (some ⟨g, 0, none⟩)] #[], .func (.func 65) #[.pointer (some ⟨g, 0, none⟩)] #[], .func (.func 66) #[.pointer (some ⟨g, 0, none⟩)] #[], .func (.func 67) #[.pointer (some ⟨g, 0, none⟩)] #[], .func (.func 68) #[.pointer (some ⟨g, 0, none⟩)] #[], .func (.func 69) #[.pointer (some ⟨g, 0, none⟩)] #[]]) (.int .i64 x.kind)).run Tryz.prog W = .ok (.func (.func 67) #[.pointer (some ⟨g, 0, none⟩)] #[]) W := fun W => by rw [hk']; kernel_rfl
   clear hk' hk hk7
   refine wp_region_held_drew (S := (fun W => W.cell? ⟨w.heap.size, 0, none⟩ = some (.int .i64 x.kind) ∧ W.cell? ⟨w.heap.size, 1, none⟩ = some (.int .i64 x.time) ∧ W.cell? ⟨w.heap.size, 2, none⟩ = some (.string x.call) ∧ W.cell? ⟨w.heap.size, 3, none⟩ = some (.string x.by_) ∧ W.cell? ⟨w.heap.size, 4, none⟩ = some (.string x.to_) ∧ W.cell? ⟨w.heap.size, 5, none⟩ = some (.slice A n cA) ∧ W.cell? ⟨w.heap.size, 6, none⟩ = some (.int .i64 x.wake) ∧ W.cell? ⟨w.heap.size, 7, none⟩ = some (.int .i64 x.slot) ∧ W.cell? ⟨w.heap.size, 8, none⟩ = some (.bool x.lands))) (by kernel_rfl) (HXa.out w1.drew rfl) (fun hHeld => ?_)
   refine wpAnyH_take (i := 0) (oi := ⟨some 34, _, _, _, _, _⟩) (v := ?v0c4) rfl (by kernel_rfl) (by kernel_rfl) (by kernel_rfl) (fun _ _ _ h => h) (Or.inl ⟨by rfl, ?y0c4⟩) hHeld ?r0c4
   case y0c4 => (intro W hSw; (try dsimp only at hSw); (try obtain ⟨s0, s1, s2, s3, s4, s5, s6, s7, s8⟩ := hSw); go_simp; try with_reducible rfl)
   try simp only [Act.put, zI, zO, zS]
   refine wpAnyH_take (i := 1) (oi := ⟨some 35, _, _, _, _, _⟩) (v := ?v1c4) rfl (by kernel_rfl) (by kernel_rfl) (by kernel_rfl) (fun _ _ _ h => h) (Or.inl ⟨by rfl, ?y1c4⟩) hHeld ?r1c4
   case y1c4 => (intro W hSw; (try dsimp only at hSw); (try obtain ⟨s0, s1, s2, s3, s4, s5, s6, s7, s8⟩ := hSw); go_simp; try with_reducible rfl)
   try simp only [Act.put, zI, zO, zS]
   refine wpAnyH_take (i := 2) (oi := ⟨some 36, _, _, _, _, _⟩) (v := ?v2c4) rfl (by kernel_rfl) (by kernel_rfl) (by kernel_rfl) (fun _ _ _ h => h) (Or.inl ⟨by rfl, ?y2c4⟩) hHeld ?r2c4
   case y2c4 => (intro W hSw; (try dsimp only at hSw); (try obtain ⟨s0, s1, s2, s3, s4, s5, s6, s7, s8⟩ := hSw); go_simp; try with_reducible rfl)
   try simp only [Act.put, zI, zO, zS]
   refine wpAnyH_take (i := 3) (oi := ⟨some 37, _, _, _, _, _⟩) (v := ?v3c4) rfl (by kernel_rfl) (by kernel_rfl) (by kernel_rfl) (fun _ _ _ h => h) (Or.inl ⟨by rfl, ?y3c4⟩) hHeld ?r3c4
   case y3c4 => (intro W hSw; (try dsimp only at hSw); (try obtain ⟨s0, s1, s2, s3, s4, s5, s6, s7, s8⟩ := hSw); go_simp; try with_reducible rfl)
   try simp only [Act.put, zI, zO, zS]
   refine wpAnyH_take (i := 4) (oi := ⟨some 38, _, _, _, _, _⟩) (v := ?v4c4) rfl (by kernel_rfl) (by kernel_rfl) (by kernel_rfl) (fun _ _ _ h => h) (Or.inl ⟨by rfl, ?y4c4⟩) hHeld ?r4c4
   case y4c4 => (intro W hSw; (try dsimp only at hSw); (try obtain ⟨s0, s1, s2, s3, s4, s5, s6, s7, s8⟩ := hSw); go_simp; try with_reducible rfl)
   try simp only [Act.put, zI, zO, zS]
   refine wpAnyH_take (i := 5) (oi := ⟨some 39, _, _, _, _, _⟩) (v := ?v5c4) rfl (by kernel_rfl) (by kernel_rfl) (by kernel_rfl) (fun _ _ _ h => h) (Or.inl ⟨by rfl, ?y5c4⟩) hHeld ?r5c4
   case y5c4 => (intro W hSw; (try dsimp only at hSw); (try obtain ⟨s0, s1, s2, s3, s4, s5, s6, s7, s8⟩ := hSw); go_simp; try with_reducible rfl)
   try simp only [Act.put, zI, zO, zS]
   refine wpAnyH_take (i := 6) (oi := ⟨some 40, _, _, _, _, _⟩) (v := ?v6c4) rfl (by kernel_rfl) (by kernel_rfl) (by kernel_rfl) (fun _ _ _ h => h) (Or.inl ⟨by rfl, ?y6c4⟩) hHeld ?r6c4
   case y6c4 => (intro W hSw; (try dsimp only at hSw); (try obtain ⟨s0, s1, s2, s3, s4, s5, s6, s7, s8⟩ := hSw); go_simp; try with_reducible rfl)
   try simp only [Act.put, zI, zO, zS]
   refine wpAnyH_take (i := 7) (oi := ⟨some 41, _, _, _, _, _⟩) (v := ?v7c4) rfl (by kernel_rfl) (by kernel_rfl) (by kernel_rfl) (fun _ _ _ h => h) (Or.inl ⟨by rfl, ?y7c4⟩) hHeld ?r7c4
   case y7c4 => (intro W hSw; (try dsimp only at hSw); (try obtain ⟨s0, s1, s2, s3, s4, s5, s6, s7, s8⟩ := hSw); go_simp; try with_reducible rfl)
   try simp only [Act.put, zI, zO, zS]
   refine wpAnyH_take (i := 8) (oi := ⟨some 42, _, _, _, _, _⟩) (v := ?v8c4) rfl (by kernel_rfl) (by kernel_rfl) (by kernel_rfl) (fun _ _ _ h => h) (Or.inl ⟨by rfl, ?y8c4⟩) hHeld ?r8c4
   case y8c4 => (intro W hSw; (try dsimp only at hSw); (try obtain ⟨s0, s1, s2, s3, s4, s5, s6, s7, s8⟩ := hSw); go_simp; try with_reducible rfl)
   try simp only [Act.put, zI, zO, zS]
   refine wpAnyH_take (i := 9) (oi := ⟨some 43, _, _, _, _, _⟩) (v := ?v9c4) rfl (by kernel_rfl) (by kernel_rfl) (by kernel_rfl) (fun _ _ _ h => h) (Or.inl ⟨by rfl, ?y9c4⟩) hHeld ?r9c4
   case y9c4 => (intro W hSw; (try dsimp only at hSw); (try obtain ⟨s0, s1, s2, s3, s4, s5, s6, s7, s8⟩ := hSw); go_simp; try with_reducible rfl)
   try simp only [Act.put, zI, zO, zS]
   refine wpAnyH_take (i := 10) (oi := ⟨some 44, _, _, _, _, _⟩) (v := ?v10c4) rfl (by kernel_rfl) (by kernel_rfl) (by kernel_rfl) (fun _ _ _ h => h) (Or.inl ⟨by rfl, ?y10c4⟩) hHeld ?r10c4
   case y10c4 => (intro W hSw; (try dsimp only at hSw); (try obtain ⟨s0, s1, s2, s3, s4, s5, s6, s7, s8⟩ := hSw); go_simp; try with_reducible rfl)
   try simp only [Act.put, zI, zO, zS]
   refine wpAnyH_take (i := 11) (oi := ⟨some 45, _, _, _, _, _⟩) (v := ?v11c4) rfl (by kernel_rfl) (by kernel_rfl) (by kernel_rfl) (fun _ _ _ h => h) (Or.inl ⟨by rfl, ?y11c4⟩) hHeld ?r11c4
   case y11c4 => (intro W hSw; (try dsimp only at hSw); (try obtain ⟨s0, s1, s2, s3, s4, s5, s6, s7, s8⟩ := hSw); go_simp; try with_reducible rfl)
   try simp only [Act.put, zI, zO, zS]
   refine wpAnyH_take (i := 12) (oi := ⟨some 46, _, _, _, _, _⟩) (v := ?v12c4) rfl (by kernel_rfl) (by kernel_rfl) (by kernel_rfl) (fun _ _ _ h => h) (Or.inl ⟨by rfl, ?y12c4⟩) hHeld ?r12c4
   case y12c4 => (intro W hSw; (try dsimp only at hSw); (try obtain ⟨s0, s1, s2, s3, s4, s5, s6, s7, s8⟩ := hSw); go_simp; try with_reducible rfl)
   try simp only [Act.put, zI, zO, zS]
   refine wpAnyH_take (i := 13) (oi := ⟨some 47, _, _, _, _, _⟩) (v := ?v13c4) rfl (by kernel_rfl) (by kernel_rfl) (by kernel_rfl) (fun _ _ _ h => h) (Or.inl ⟨by rfl, ?y13c4⟩) hHeld ?r13c4
   case y13c4 => (intro W hSw; (try dsimp only at hSw); (try obtain ⟨s0, s1, s2, s3, s4, s5, s6, s7, s8⟩ := hSw); go_simp; try with_reducible rfl)
   try simp only [Act.put, zI, zO, zS]
   refine wpAnyH_take (i := 14) (oi := ⟨some 48, _, _, _, _, _⟩) (v := ?v14c4) rfl (by kernel_rfl) (by kernel_rfl) (by kernel_rfl) (fun _ _ _ h => h) (Or.inl ⟨by rfl, ?y14c4⟩) hHeld ?r14c4
   case y14c4 => (intro W hSw; (try dsimp only at hSw); (try obtain ⟨s0, s1, s2, s3, s4, s5, s6, s7, s8⟩ := hSw); go_simp; try with_reducible rfl)
   try simp only [Act.put, zI, zO, zS]
   refine wpAnyH_take (i := 15) (oi := ⟨some 49, _, _, _, _, _⟩) (v := ?v15c4) rfl (by kernel_rfl) (by kernel_rfl) (by kernel_rfl) (fun _ _ _ h => h) (Or.inl ⟨by rfl, ?y15c4⟩) hHeld ?r15c4
   case y15c4 => (intro W hSw; (try dsimp only at hSw); (try obtain ⟨s0, s1, s2, s3, s4, s5, s6, s7, s8⟩ := hSw); go_simp; try with_reducible rfl)
   try simp only [Act.put, zI, zO, zS]
   refine wpAnyH_take (i := 16) (oi := ⟨some 50, _, _, _, _, _⟩) (v := ?v16c4) rfl (by kernel_rfl) (by kernel_rfl) (by kernel_rfl) (fun _ _ _ h => h) (Or.inl ⟨by rfl, ?y16c4⟩) hHeld ?r16c4
   case y16c4 => (intro W hSw; (try dsimp only at hSw); (try obtain ⟨s0, s1, s2, s3, s4, s5, s6, s7, s8⟩ := hSw); go_simp; try with_reducible rfl)
   try simp only [Act.put, zI, zO, zS]
   refine wpAnyH_take (i := 17) (oi := ⟨some 51, _, _, _, _, _⟩) (v := ?v17c4) rfl (by kernel_rfl) (by kernel_rfl) (by kernel_rfl) (fun _ _ _ h => h) (Or.inl ⟨by rfl, ?y17c4⟩) hHeld ?r17c4
   case y17c4 => (intro W hSw; (try dsimp only at hSw); (try obtain ⟨s0, s1, s2, s3, s4, s5, s6, s7, s8⟩ := hSw); go_simp; try with_reducible rfl)
   try simp only [Act.put, zI, zO, zS]
   refine wpAnyH_take (i := 18) (oi := ⟨some 52, _, _, _, _, _⟩) (v := ?v18c4) rfl (by kernel_rfl) (by kernel_rfl) (by kernel_rfl) (fun _ _ _ h => h) (Or.inl ⟨by rfl, ?y18c4⟩) hHeld ?r18c4
   case y18c4 => (intro W hSw; (try dsimp only at hSw); (try obtain ⟨s0, s1, s2, s3, s4, s5, s6, s7, s8⟩ := hSw); go_simp; try with_reducible rfl)
   try simp only [Act.put, zI, zO, zS]
   refine wpAnyH_ready (rs := [19]) (by kernel_rfl) (by simp) ?_
   refine (AllReadyH.cons (o := ⟨some 53, _, _, _, _, _⟩) rfl (fun K hK => ?_) AllReadyH.nil)
   go_simp
   go_at_call 67
   (with_reducible refine HCq.out.mono ?_)
   rintro e w3 ⟨rfl, F1, hc1, hof, hsub⟩
   have zB : w3.heap[w.heap.size]? = w1.heap[w.heap.size]? := hof.block w.heap.size hBl hBF
   refine hK.out _ _ (HXa.out w3 zB) (fun hHeld => ?_)
   clear hK K
   try simp only [Act.put, zI, zO, zS]
   refine wpAnyH_ready (rs := [20]) (by kernel_rfl) (by simp) ?_
   refine (AllReadyH.cons (o := ⟨some 5, _, _, _, _, _⟩) rfl (fun K hK => ?_) AllReadyH.nil)
   go_simp
   refine hK.out _ _ (HXa.out w3 zB) (fun hHeld => ?_)
   clear hK K
   try simp only [Act.put, zI, zO, zS]
   refine wpAnyH_done (by kernel_rfl) ?_ _
   go_wp2_with fail
   go_meet
   case rel => exact ⟨rfl, F1, hc1, ⟨hof.os, hof.tape, hof.output, hof.size, hof.block⟩, hsub⟩
  ·have hk' : x.kind = 5 := hk
   have HCq : Hid (Calls Tryz.prog 68 #[.pointer (some ⟨g, 0, none⟩), .agg #[.int .i64 x.kind, .int .i64 x.time, .string x.call, .string x.by_, .string x.to_, .slice A n cA, .int .i64 x.wake, .int .i64 x.slot, .bool x.lands]] w1.drew (fun e w3 => e = .returned (.int .i64 mk) ∧ ∃ F1 : Nat → Prop, CeAt F1 g S d w3 ∧ Off F w1.drew w3 ∧ ∀ b, F1 b → F b ∨ w1.drew.heap.size ≤ b)) := HCk
   clear HCk
   have hix : ∀ W : World, (Instr.index 130 (.agg #[.func (.func 63) #[.pointer (some ⟨g, 0, none⟩)] #[], .func (.func 64) #[.pointer (some ⟨g, 0, none⟩)] #[], .func (.func 65) #[.pointer (some ⟨g, 0, none⟩)] #[], .func (.func 66) #[.pointer (some ⟨g, 0, none⟩)] #[], .func (.func 67) #[.pointer (some ⟨g, 0, none⟩)] #[], .func (.func 68) #[.pointer (some ⟨g, 0, none⟩)] #[], .func (.func 69) #[.pointer (some ⟨g, 0, none⟩)] #[]]) (.int .i64 x.kind)).run Tryz.prog W = .ok (.func (.func 68) #[.pointer (some ⟨g, 0, none⟩)] #[]) W := fun W => by rw [hk']; kernel_rfl
   clear hk' hk hk7
   refine wp_region_held_drew (S := (fun W => W.cell? ⟨w.heap.size, 0, none⟩ = some (.int .i64 x.kind) ∧ W.cell? ⟨w.heap.size, 1, none⟩ = some (.int .i64 x.time) ∧ W.cell? ⟨w.heap.size, 2, none⟩ = some (.string x.call) ∧ W.cell? ⟨w.heap.size, 3, none⟩ = some (.string x.by_) ∧ W.cell? ⟨w.heap.size, 4, none⟩ = some (.string x.to_) ∧ W.cell? ⟨w.heap.size, 5, none⟩ = some (.slice A n cA) ∧ W.cell? ⟨w.heap.size, 6, none⟩ = some (.int .i64 x.wake) ∧ W.cell? ⟨w.heap.size, 7, none⟩ = some (.int .i64 x.slot) ∧ W.cell? ⟨w.heap.size, 8, none⟩ = some (.bool x.lands))) (by kernel_rfl) (HXa.out w1.drew rfl) (fun hHeld => ?_)
   refine wpAnyH_take (i := 0) (oi := ⟨some 34, _, _, _, _, _⟩) (v := ?v0c5) rfl (by kernel_rfl) (by kernel_rfl) (by kernel_rfl) (fun _ _ _ h => h) (Or.inl ⟨by rfl, ?y0c5⟩) hHeld ?r0c5
   case y0c5 => (intro W hSw; (try dsimp only at hSw); (try obtain ⟨s0, s1, s2, s3, s4, s5, s6, s7, s8⟩ := hSw); go_simp; try with_reducible rfl)
   try simp only [Act.put, zI, zO, zS]
   refine wpAnyH_take (i := 1) (oi := ⟨some 35, _, _, _, _, _⟩) (v := ?v1c5) rfl (by kernel_rfl) (by kernel_rfl) (by kernel_rfl) (fun _ _ _ h => h) (Or.inl ⟨by rfl, ?y1c5⟩) hHeld ?r1c5
   case y1c5 => (intro W hSw; (try dsimp only at hSw); (try obtain ⟨s0, s1, s2, s3, s4, s5, s6, s7, s8⟩ := hSw); go_simp; try with_reducible rfl)
   try simp only [Act.put, zI, zO, zS]
   refine wpAnyH_take (i := 2) (oi := ⟨some 36, _, _, _, _, _⟩) (v := ?v2c5) rfl (by kernel_rfl) (by kernel_rfl) (by kernel_rfl) (fun _ _ _ h => h) (Or.inl ⟨by rfl, ?y2c5⟩) hHeld ?r2c5
   case y2c5 => (intro W hSw; (try dsimp only at hSw); (try obtain ⟨s0, s1, s2, s3, s4, s5, s6, s7, s8⟩ := hSw); go_simp; try with_reducible rfl)
   try simp only [Act.put, zI, zO, zS]
   refine wpAnyH_take (i := 3) (oi := ⟨some 37, _, _, _, _, _⟩) (v := ?v3c5) rfl (by kernel_rfl) (by kernel_rfl) (by kernel_rfl) (fun _ _ _ h => h) (Or.inl ⟨by rfl, ?y3c5⟩) hHeld ?r3c5
   case y3c5 => (intro W hSw; (try dsimp only at hSw); (try obtain ⟨s0, s1, s2, s3, s4, s5, s6, s7, s8⟩ := hSw); go_simp; try with_reducible rfl)
   try simp only [Act.put, zI, zO, zS]
   refine wpAnyH_take (i := 4) (oi := ⟨some 38, _, _, _, _, _⟩) (v := ?v4c5) rfl (by kernel_rfl) (by kernel_rfl) (by kernel_rfl) (fun _ _ _ h => h) (Or.inl ⟨by rfl, ?y4c5⟩) hHeld ?r4c5
   case y4c5 => (intro W hSw; (try dsimp only at hSw); (try obtain ⟨s0, s1, s2, s3, s4, s5, s6, s7, s8⟩ := hSw); go_simp; try with_reducible rfl)
   try simp only [Act.put, zI, zO, zS]
   refine wpAnyH_take (i := 5) (oi := ⟨some 39, _, _, _, _, _⟩) (v := ?v5c5) rfl (by kernel_rfl) (by kernel_rfl) (by kernel_rfl) (fun _ _ _ h => h) (Or.inl ⟨by rfl, ?y5c5⟩) hHeld ?r5c5
   case y5c5 => (intro W hSw; (try dsimp only at hSw); (try obtain ⟨s0, s1, s2, s3, s4, s5, s6, s7, s8⟩ := hSw); go_simp; try with_reducible rfl)
   try simp only [Act.put, zI, zO, zS]
   refine wpAnyH_take (i := 6) (oi := ⟨some 40, _, _, _, _, _⟩) (v := ?v6c5) rfl (by kernel_rfl) (by kernel_rfl) (by kernel_rfl) (fun _ _ _ h => h) (Or.inl ⟨by rfl, ?y6c5⟩) hHeld ?r6c5
   case y6c5 => (intro W hSw; (try dsimp only at hSw); (try obtain ⟨s0, s1, s2, s3, s4, s5, s6, s7, s8⟩ := hSw); go_simp; try with_reducible rfl)
   try simp only [Act.put, zI, zO, zS]
   refine wpAnyH_take (i := 7) (oi := ⟨some 41, _, _, _, _, _⟩) (v := ?v7c5) rfl (by kernel_rfl) (by kernel_rfl) (by kernel_rfl) (fun _ _ _ h => h) (Or.inl ⟨by rfl, ?y7c5⟩) hHeld ?r7c5
   case y7c5 => (intro W hSw; (try dsimp only at hSw); (try obtain ⟨s0, s1, s2, s3, s4, s5, s6, s7, s8⟩ := hSw); go_simp; try with_reducible rfl)
   try simp only [Act.put, zI, zO, zS]
   refine wpAnyH_take (i := 8) (oi := ⟨some 42, _, _, _, _, _⟩) (v := ?v8c5) rfl (by kernel_rfl) (by kernel_rfl) (by kernel_rfl) (fun _ _ _ h => h) (Or.inl ⟨by rfl, ?y8c5⟩) hHeld ?r8c5
   case y8c5 => (intro W hSw; (try dsimp only at hSw); (try obtain ⟨s0, s1, s2, s3, s4, s5, s6, s7, s8⟩ := hSw); go_simp; try with_reducible rfl)
   try simp only [Act.put, zI, zO, zS]
   refine wpAnyH_take (i := 9) (oi := ⟨some 43, _, _, _, _, _⟩) (v := ?v9c5) rfl (by kernel_rfl) (by kernel_rfl) (by kernel_rfl) (fun _ _ _ h => h) (Or.inl ⟨by rfl, ?y9c5⟩) hHeld ?r9c5
   case y9c5 => (intro W hSw; (try dsimp only at hSw); (try obtain ⟨s0, s1, s2, s3, s4, s5, s6, s7, s8⟩ := hSw); go_simp; try with_reducible rfl)
   try simp only [Act.put, zI, zO, zS]
   refine wpAnyH_take (i := 10) (oi := ⟨some 44, _, _, _, _, _⟩) (v := ?v10c5) rfl (by kernel_rfl) (by kernel_rfl) (by kernel_rfl) (fun _ _ _ h => h) (Or.inl ⟨by rfl, ?y10c5⟩) hHeld ?r10c5
   case y10c5 => (intro W hSw; (try dsimp only at hSw); (try obtain ⟨s0, s1, s2, s3, s4, s5, s6, s7, s8⟩ := hSw); go_simp; try with_reducible rfl)
   try simp only [Act.put, zI, zO, zS]
   refine wpAnyH_take (i := 11) (oi := ⟨some 45, _, _, _, _, _⟩) (v := ?v11c5) rfl (by kernel_rfl) (by kernel_rfl) (by kernel_rfl) (fun _ _ _ h => h) (Or.inl ⟨by rfl, ?y11c5⟩) hHeld ?r11c5
   case y11c5 => (intro W hSw; (try dsimp only at hSw); (try obtain ⟨s0, s1, s2, s3, s4, s5, s6, s7, s8⟩ := hSw); go_simp; try with_reducible rfl)
   try simp only [Act.put, zI, zO, zS]
   refine wpAnyH_take (i := 12) (oi := ⟨some 46, _, _, _, _, _⟩) (v := ?v12c5) rfl (by kernel_rfl) (by kernel_rfl) (by kernel_rfl) (fun _ _ _ h => h) (Or.inl ⟨by rfl, ?y12c5⟩) hHeld ?r12c5
   case y12c5 => (intro W hSw; (try dsimp only at hSw); (try obtain ⟨s0, s1, s2, s3, s4, s5, s6, s7, s8⟩ := hSw); go_simp; try with_reducible rfl)
   try simp only [Act.put, zI, zO, zS]
   refine wpAnyH_take (i := 13) (oi := ⟨some 47, _, _, _, _, _⟩) (v := ?v13c5) rfl (by kernel_rfl) (by kernel_rfl) (by kernel_rfl) (fun _ _ _ h => h) (Or.inl ⟨by rfl, ?y13c5⟩) hHeld ?r13c5
   case y13c5 => (intro W hSw; (try dsimp only at hSw); (try obtain ⟨s0, s1, s2, s3, s4, s5, s6, s7, s8⟩ := hSw); go_simp; try with_reducible rfl)
   try simp only [Act.put, zI, zO, zS]
   refine wpAnyH_take (i := 14) (oi := ⟨some 48, _, _, _, _, _⟩) (v := ?v14c5) rfl (by kernel_rfl) (by kernel_rfl) (by kernel_rfl) (fun _ _ _ h => h) (Or.inl ⟨by rfl, ?y14c5⟩) hHeld ?r14c5
   case y14c5 => (intro W hSw; (try dsimp only at hSw); (try obtain ⟨s0, s1, s2, s3, s4, s5, s6, s7, s8⟩ := hSw); go_simp; try with_reducible rfl)
   try simp only [Act.put, zI, zO, zS]
   refine wpAnyH_take (i := 15) (oi := ⟨some 49, _, _, _, _, _⟩) (v := ?v15c5) rfl (by kernel_rfl) (by kernel_rfl) (by kernel_rfl) (fun _ _ _ h => h) (Or.inl ⟨by rfl, ?y15c5⟩) hHeld ?r15c5
   case y15c5 => (intro W hSw; (try dsimp only at hSw); (try obtain ⟨s0, s1, s2, s3, s4, s5, s6, s7, s8⟩ := hSw); go_simp; try with_reducible rfl)
   try simp only [Act.put, zI, zO, zS]
   refine wpAnyH_take (i := 16) (oi := ⟨some 50, _, _, _, _, _⟩) (v := ?v16c5) rfl (by kernel_rfl) (by kernel_rfl) (by kernel_rfl) (fun _ _ _ h => h) (Or.inl ⟨by rfl, ?y16c5⟩) hHeld ?r16c5
   case y16c5 => (intro W hSw; (try dsimp only at hSw); (try obtain ⟨s0, s1, s2, s3, s4, s5, s6, s7, s8⟩ := hSw); go_simp; try with_reducible rfl)
   try simp only [Act.put, zI, zO, zS]
   refine wpAnyH_take (i := 17) (oi := ⟨some 51, _, _, _, _, _⟩) (v := ?v17c5) rfl (by kernel_rfl) (by kernel_rfl) (by kernel_rfl) (fun _ _ _ h => h) (Or.inl ⟨by rfl, ?y17c5⟩) hHeld ?r17c5
   case y17c5 => (intro W hSw; (try dsimp only at hSw); (try obtain ⟨s0, s1, s2, s3, s4, s5, s6, s7, s8⟩ := hSw); go_simp; try with_reducible rfl)
   try simp only [Act.put, zI, zO, zS]
   refine wpAnyH_take (i := 18) (oi := ⟨some 52, _, _, _, _, _⟩) (v := ?v18c5) rfl (by kernel_rfl) (by kernel_rfl) (by kernel_rfl) (fun _ _ _ h => h) (Or.inl ⟨by rfl, ?y18c5⟩) hHeld ?r18c5
   case y18c5 => (intro W hSw; (try dsimp only at hSw); (try obtain ⟨s0, s1, s2, s3, s4, s5, s6, s7, s8⟩ := hSw); go_simp; try with_reducible rfl)
   try simp only [Act.put, zI, zO, zS]
   refine wpAnyH_ready (rs := [19]) (by kernel_rfl) (by simp) ?_
   refine (AllReadyH.cons (o := ⟨some 53, _, _, _, _, _⟩) rfl (fun K hK => ?_) AllReadyH.nil)
   go_simp
   go_at_call 68
   (with_reducible refine HCq.out.mono ?_)
   rintro e w3 ⟨rfl, F1, hc1, hof, hsub⟩
   have zB : w3.heap[w.heap.size]? = w1.heap[w.heap.size]? := hof.block w.heap.size hBl hBF
   refine hK.out _ _ (HXa.out w3 zB) (fun hHeld => ?_)
   clear hK K
   try simp only [Act.put, zI, zO, zS]
   refine wpAnyH_ready (rs := [20]) (by kernel_rfl) (by simp) ?_
   refine (AllReadyH.cons (o := ⟨some 5, _, _, _, _, _⟩) rfl (fun K hK => ?_) AllReadyH.nil)
   go_simp
   refine hK.out _ _ (HXa.out w3 zB) (fun hHeld => ?_)
   clear hK K
   try simp only [Act.put, zI, zO, zS]
   refine wpAnyH_done (by kernel_rfl) ?_ _
   go_wp2_with fail
   go_meet
   case rel => exact ⟨rfl, F1, hc1, ⟨hof.os, hof.tape, hof.output, hof.size, hof.block⟩, hsub⟩
  ·have hk' : x.kind = 6 := hk
   have HCq : Hid (Calls Tryz.prog 69 #[.pointer (some ⟨g, 0, none⟩), .agg #[.int .i64 x.kind, .int .i64 x.time, .string x.call, .string x.by_, .string x.to_, .slice A n cA, .int .i64 x.wake, .int .i64 x.slot, .bool x.lands]] w1.drew (fun e w3 => e = .returned (.int .i64 mk) ∧ ∃ F1 : Nat → Prop, CeAt F1 g S d w3 ∧ Off F w1.drew w3 ∧ ∀ b, F1 b → F b ∨ w1.drew.heap.size ≤ b)) := HCk
   clear HCk
   have hix : ∀ W : World, (Instr.index 130 (.agg #[.func (.func 63) #[.pointer (some ⟨g, 0, none⟩)] #[], .func (.func 64) #[.pointer (some ⟨g, 0, none⟩)] #[], .func (.func 65) #[.pointer (some ⟨g, 0, none⟩)] #[], .func (.func 66) #[.pointer (some ⟨g, 0, none⟩)] #[], .func (.func 67) #[.pointer (some ⟨g, 0, none⟩)] #[], .func (.func 68) #[.pointer (some ⟨g, 0, none⟩)] #[], .func (.func 69) #[.pointer (some ⟨g, 0, none⟩)] #[]]) (.int .i64 x.kind)).run Tryz.prog W = .ok (.func (.func 69) #[.pointer (some ⟨g, 0, none⟩)] #[]) W := fun W => by rw [hk']; kernel_rfl
   clear hk' hk hk7
   refine wp_region_held_drew (S := (fun W => W.cell? ⟨w.heap.size, 0, none⟩ = some (.int .i64 x.kind) ∧ W.cell? ⟨w.heap.size, 1, none⟩ = some (.int .i64 x.time) ∧ W.cell? ⟨w.heap.size, 2, none⟩ = some (.string x.call) ∧ W.cell? ⟨w.heap.size, 3, none⟩ = some (.string x.by_) ∧ W.cell? ⟨w.heap.size, 4, none⟩ = some (.string x.to_) ∧ W.cell? ⟨w.heap.size, 5, none⟩ = some (.slice A n cA) ∧ W.cell? ⟨w.heap.size, 6, none⟩ = some (.int .i64 x.wake) ∧ W.cell? ⟨w.heap.size, 7, none⟩ = some (.int .i64 x.slot) ∧ W.cell? ⟨w.heap.size, 8, none⟩ = some (.bool x.lands))) (by kernel_rfl) (HXa.out w1.drew rfl) (fun hHeld => ?_)
   refine wpAnyH_take (i := 0) (oi := ⟨some 34, _, _, _, _, _⟩) (v := ?v0c6) rfl (by kernel_rfl) (by kernel_rfl) (by kernel_rfl) (fun _ _ _ h => h) (Or.inl ⟨by rfl, ?y0c6⟩) hHeld ?r0c6
   case y0c6 => (intro W hSw; (try dsimp only at hSw); (try obtain ⟨s0, s1, s2, s3, s4, s5, s6, s7, s8⟩ := hSw); go_simp; try with_reducible rfl)
   try simp only [Act.put, zI, zO, zS]
   refine wpAnyH_take (i := 1) (oi := ⟨some 35, _, _, _, _, _⟩) (v := ?v1c6) rfl (by kernel_rfl) (by kernel_rfl) (by kernel_rfl) (fun _ _ _ h => h) (Or.inl ⟨by rfl, ?y1c6⟩) hHeld ?r1c6
   case y1c6 => (intro W hSw; (try dsimp only at hSw); (try obtain ⟨s0, s1, s2, s3, s4, s5, s6, s7, s8⟩ := hSw); go_simp; try with_reducible rfl)
   try simp only [Act.put, zI, zO, zS]
   refine wpAnyH_take (i := 2) (oi := ⟨some 36, _, _, _, _, _⟩) (v := ?v2c6) rfl (by kernel_rfl) (by kernel_rfl) (by kernel_rfl) (fun _ _ _ h => h) (Or.inl ⟨by rfl, ?y2c6⟩) hHeld ?r2c6
   case y2c6 => (intro W hSw; (try dsimp only at hSw); (try obtain ⟨s0, s1, s2, s3, s4, s5, s6, s7, s8⟩ := hSw); go_simp; try with_reducible rfl)
   try simp only [Act.put, zI, zO, zS]
   refine wpAnyH_take (i := 3) (oi := ⟨some 37, _, _, _, _, _⟩) (v := ?v3c6) rfl (by kernel_rfl) (by kernel_rfl) (by kernel_rfl) (fun _ _ _ h => h) (Or.inl ⟨by rfl, ?y3c6⟩) hHeld ?r3c6
   case y3c6 => (intro W hSw; (try dsimp only at hSw); (try obtain ⟨s0, s1, s2, s3, s4, s5, s6, s7, s8⟩ := hSw); go_simp; try with_reducible rfl)
   try simp only [Act.put, zI, zO, zS]
   refine wpAnyH_take (i := 4) (oi := ⟨some 38, _, _, _, _, _⟩) (v := ?v4c6) rfl (by kernel_rfl) (by kernel_rfl) (by kernel_rfl) (fun _ _ _ h => h) (Or.inl ⟨by rfl, ?y4c6⟩) hHeld ?r4c6
   case y4c6 => (intro W hSw; (try dsimp only at hSw); (try obtain ⟨s0, s1, s2, s3, s4, s5, s6, s7, s8⟩ := hSw); go_simp; try with_reducible rfl)
   try simp only [Act.put, zI, zO, zS]
   refine wpAnyH_take (i := 5) (oi := ⟨some 39, _, _, _, _, _⟩) (v := ?v5c6) rfl (by kernel_rfl) (by kernel_rfl) (by kernel_rfl) (fun _ _ _ h => h) (Or.inl ⟨by rfl, ?y5c6⟩) hHeld ?r5c6
   case y5c6 => (intro W hSw; (try dsimp only at hSw); (try obtain ⟨s0, s1, s2, s3, s4, s5, s6, s7, s8⟩ := hSw); go_simp; try with_reducible rfl)
   try simp only [Act.put, zI, zO, zS]
   refine wpAnyH_take (i := 6) (oi := ⟨some 40, _, _, _, _, _⟩) (v := ?v6c6) rfl (by kernel_rfl) (by kernel_rfl) (by kernel_rfl) (fun _ _ _ h => h) (Or.inl ⟨by rfl, ?y6c6⟩) hHeld ?r6c6
   case y6c6 => (intro W hSw; (try dsimp only at hSw); (try obtain ⟨s0, s1, s2, s3, s4, s5, s6, s7, s8⟩ := hSw); go_simp; try with_reducible rfl)
   try simp only [Act.put, zI, zO, zS]
   refine wpAnyH_take (i := 7) (oi := ⟨some 41, _, _, _, _, _⟩) (v := ?v7c6) rfl (by kernel_rfl) (by kernel_rfl) (by kernel_rfl) (fun _ _ _ h => h) (Or.inl ⟨by rfl, ?y7c6⟩) hHeld ?r7c6
   case y7c6 => (intro W hSw; (try dsimp only at hSw); (try obtain ⟨s0, s1, s2, s3, s4, s5, s6, s7, s8⟩ := hSw); go_simp; try with_reducible rfl)
   try simp only [Act.put, zI, zO, zS]
   refine wpAnyH_take (i := 8) (oi := ⟨some 42, _, _, _, _, _⟩) (v := ?v8c6) rfl (by kernel_rfl) (by kernel_rfl) (by kernel_rfl) (fun _ _ _ h => h) (Or.inl ⟨by rfl, ?y8c6⟩) hHeld ?r8c6
   case y8c6 => (intro W hSw; (try dsimp only at hSw); (try obtain ⟨s0, s1, s2, s3, s4, s5, s6, s7, s8⟩ := hSw); go_simp; try with_reducible rfl)
   try simp only [Act.put, zI, zO, zS]
   refine wpAnyH_take (i := 9) (oi := ⟨some 43, _, _, _, _, _⟩) (v := ?v9c6) rfl (by kernel_rfl) (by kernel_rfl) (by kernel_rfl) (fun _ _ _ h => h) (Or.inl ⟨by rfl, ?y9c6⟩) hHeld ?r9c6
   case y9c6 => (intro W hSw; (try dsimp only at hSw); (try obtain ⟨s0, s1, s2, s3, s4, s5, s6, s7, s8⟩ := hSw); go_simp; try with_reducible rfl)
   try simp only [Act.put, zI, zO, zS]
   refine wpAnyH_take (i := 10) (oi := ⟨some 44, _, _, _, _, _⟩) (v := ?v10c6) rfl (by kernel_rfl) (by kernel_rfl) (by kernel_rfl) (fun _ _ _ h => h) (Or.inl ⟨by rfl, ?y10c6⟩) hHeld ?r10c6
   case y10c6 => (intro W hSw; (try dsimp only at hSw); (try obtain ⟨s0, s1, s2, s3, s4, s5, s6, s7, s8⟩ := hSw); go_simp; try with_reducible rfl)
   try simp only [Act.put, zI, zO, zS]
   refine wpAnyH_take (i := 11) (oi := ⟨some 45, _, _, _, _, _⟩) (v := ?v11c6) rfl (by kernel_rfl) (by kernel_rfl) (by kernel_rfl) (fun _ _ _ h => h) (Or.inl ⟨by rfl, ?y11c6⟩) hHeld ?r11c6
   case y11c6 => (intro W hSw; (try dsimp only at hSw); (try obtain ⟨s0, s1, s2, s3, s4, s5, s6, s7, s8⟩ := hSw); go_simp; try with_reducible rfl)
   try simp only [Act.put, zI, zO, zS]
   refine wpAnyH_take (i := 12) (oi := ⟨some 46, _, _, _, _, _⟩) (v := ?v12c6) rfl (by kernel_rfl) (by kernel_rfl) (by kernel_rfl) (fun _ _ _ h => h) (Or.inl ⟨by rfl, ?y12c6⟩) hHeld ?r12c6
   case y12c6 => (intro W hSw; (try dsimp only at hSw); (try obtain ⟨s0, s1, s2, s3, s4, s5, s6, s7, s8⟩ := hSw); go_simp; try with_reducible rfl)
   try simp only [Act.put, zI, zO, zS]
   refine wpAnyH_take (i := 13) (oi := ⟨some 47, _, _, _, _, _⟩) (v := ?v13c6) rfl (by kernel_rfl) (by kernel_rfl) (by kernel_rfl) (fun _ _ _ h => h) (Or.inl ⟨by rfl, ?y13c6⟩) hHeld ?r13c6
   case y13c6 => (intro W hSw; (try dsimp only at hSw); (try obtain ⟨s0, s1, s2, s3, s4, s5, s6, s7, s8⟩ := hSw); go_simp; try with_reducible rfl)
   try simp only [Act.put, zI, zO, zS]
   refine wpAnyH_take (i := 14) (oi := ⟨some 48, _, _, _, _, _⟩) (v := ?v14c6) rfl (by kernel_rfl) (by kernel_rfl) (by kernel_rfl) (fun _ _ _ h => h) (Or.inl ⟨by rfl, ?y14c6⟩) hHeld ?r14c6
   case y14c6 => (intro W hSw; (try dsimp only at hSw); (try obtain ⟨s0, s1, s2, s3, s4, s5, s6, s7, s8⟩ := hSw); go_simp; try with_reducible rfl)
   try simp only [Act.put, zI, zO, zS]
   refine wpAnyH_take (i := 15) (oi := ⟨some 49, _, _, _, _, _⟩) (v := ?v15c6) rfl (by kernel_rfl) (by kernel_rfl) (by kernel_rfl) (fun _ _ _ h => h) (Or.inl ⟨by rfl, ?y15c6⟩) hHeld ?r15c6
   case y15c6 => (intro W hSw; (try dsimp only at hSw); (try obtain ⟨s0, s1, s2, s3, s4, s5, s6, s7, s8⟩ := hSw); go_simp; try with_reducible rfl)
   try simp only [Act.put, zI, zO, zS]
   refine wpAnyH_take (i := 16) (oi := ⟨some 50, _, _, _, _, _⟩) (v := ?v16c6) rfl (by kernel_rfl) (by kernel_rfl) (by kernel_rfl) (fun _ _ _ h => h) (Or.inl ⟨by rfl, ?y16c6⟩) hHeld ?r16c6
   case y16c6 => (intro W hSw; (try dsimp only at hSw); (try obtain ⟨s0, s1, s2, s3, s4, s5, s6, s7, s8⟩ := hSw); go_simp; try with_reducible rfl)
   try simp only [Act.put, zI, zO, zS]
   refine wpAnyH_take (i := 17) (oi := ⟨some 51, _, _, _, _, _⟩) (v := ?v17c6) rfl (by kernel_rfl) (by kernel_rfl) (by kernel_rfl) (fun _ _ _ h => h) (Or.inl ⟨by rfl, ?y17c6⟩) hHeld ?r17c6
   case y17c6 => (intro W hSw; (try dsimp only at hSw); (try obtain ⟨s0, s1, s2, s3, s4, s5, s6, s7, s8⟩ := hSw); go_simp; try with_reducible rfl)
   try simp only [Act.put, zI, zO, zS]
   refine wpAnyH_take (i := 18) (oi := ⟨some 52, _, _, _, _, _⟩) (v := ?v18c6) rfl (by kernel_rfl) (by kernel_rfl) (by kernel_rfl) (fun _ _ _ h => h) (Or.inl ⟨by rfl, ?y18c6⟩) hHeld ?r18c6
   case y18c6 => (intro W hSw; (try dsimp only at hSw); (try obtain ⟨s0, s1, s2, s3, s4, s5, s6, s7, s8⟩ := hSw); go_simp; try with_reducible rfl)
   try simp only [Act.put, zI, zO, zS]
   refine wpAnyH_ready (rs := [19]) (by kernel_rfl) (by simp) ?_
   refine (AllReadyH.cons (o := ⟨some 53, _, _, _, _, _⟩) rfl (fun K hK => ?_) AllReadyH.nil)
   go_simp
   go_at_call 69
   (with_reducible refine HCq.out.mono ?_)
   rintro e w3 ⟨rfl, F1, hc1, hof, hsub⟩
   have zB : w3.heap[w.heap.size]? = w1.heap[w.heap.size]? := hof.block w.heap.size hBl hBF
   refine hK.out _ _ (HXa.out w3 zB) (fun hHeld => ?_)
   clear hK K
   try simp only [Act.put, zI, zO, zS]
   refine wpAnyH_ready (rs := [20]) (by kernel_rfl) (by simp) ?_
   refine (AllReadyH.cons (o := ⟨some 5, _, _, _, _, _⟩) rfl (fun K hK => ?_) AllReadyH.nil)
   go_simp
   refine hK.out _ _ (HXa.out w3 zB) (fun hHeld => ?_)
   clear hK K
   try simp only [Act.put, zI, zO, zS]
   refine wpAnyH_done (by kernel_rfl) ?_ _
   go_wp2_with fail
   go_meet
   case rel => exact ⟨rfl, F1, hc1, ⟨hof.os, hof.tape, hof.output, hof.size, hof.block⟩, hsub⟩
 case rest =>
 obtain ⟨rfl, F1, hc1, hof1, hsub1⟩ := hcut
 have hw1 : Below w.heap.size w w1 := HBV.out.trans (HB1.out.mono HBV.out.size)
 have HOf := Lib.hid (show Off F w wc from ⟨hof1.os.trans hw1.os, hof1.tape.trans hw1.tape, hof1.output.trans hw1.output, Nat.le_trans hw1.size hof1.size, fun k hk hF => (hof1.block k (Nat.lt_of_lt_of_le hk hw1.size) hF).trans (hw1.block k hk)⟩)
 have HSub := Lib.hid (fun b (hb : F1 b) => (show F b ∨ w.heap.size ≤ b from (hsub1 b hb).imp id (fun h => Nat.le_trans hw1.size h)))
 have zB : wc.heap[w.heap.size]? = w1.heap[w.heap.size]? := hof1.block w.heap.size hBl hBF
 have HSub1 := Lib.hid hsub1
 have HOf1 := Lib.hid hof1
 have HC1 := Lib.hid hc1
 clear hc1 hof1 hsub1 hw1 x0 x1 x2 x3 x4 x5 x6 x7 x8 c18 c22
 by_cases hmk : mk ≠ 0
 ·have e5 : (mk != 0) = true := by simpa using hmk
  rw [if_neg hmk] at HEq
  have hd : d = c := by
   have h1 := HRm.out
   have h2 := meth_no (S := S) (c := c) (x := x) (by rw [h1]; exact hmk)
   rw [h1] at h2
   exact h2
  have HR : Hid (R (.returned (.int .i64 mk)) wc) := Lib.hid (by
   rw [← HRe.out, HEq.out, ← hd]
   exact ⟨rfl, F1, HC1.out, HOf.out, HSub.out⟩)
  clear hmk hd
  go_wp2_with fail
  (try go_ret)
  exact HR.out
 obtain rfl : mk = 0 := Decidable.not_not.1 hmk
 clear hmk
 rw [if_pos rfl] at HEq
 obtain ⟨y1, hM1⟩ := HC1.out
 have hacc : d.acc = c.acc := by have := (meth_time (S := S) HOk.out H20.out x).2; rw [HRm.out] at this; exact this
 have a22 : wc.cell? ⟨g, 22, none⟩ = some (.int .i64 (c.acc : Int)) := by rw [← hacc]; exact hM1.cell 22
 have a18 : wc.cell? ⟨g, 18, none⟩ = some (.int .i64 d.time) := hM1.cell 18
 have a21 : wc.cell? ⟨g, 21, none⟩ = some (.pointer (some ⟨y1.L, 0, none⟩)) := hM1.cell 21
 have b22 : wc.frozen? ⟨g, 22, none⟩ = false := hM1.frozen 22
 have b18 : wc.frozen? ⟨g, 18, none⟩ = false := hM1.frozen 18
 obtain ⟨z0, z1, z2, z3, z4, z5, z6, z7, z8⟩ := HXa.out wc zB
 have hgB : g ≠ w.heap.size := by omega
 have hwr : IntKind.i64.wrap ((c.acc : Int) + 1) = (c.acc : Int) + 1 := IntWalk.i64_in _ (by have := H20.out; omega)
 have HM2 := Lib.hid (hM1.setTA x.time (c.acc + 1))
 clear hM1 hacc
 go_upto_region 12 with (fail)
 obtain ⟨w5, hw5⟩ : ∃ W, ((wc.setCell ⟨g, 18, none⟩ (.int .i64 x.time)).setCell ⟨g, 22, none⟩ (.int .i64 ((c.acc : Int) + 1))) = W := ⟨_, rfl⟩
 rw [hw5]
 have HM5 := Lib.hid (show CeM F1 g S { d with time := x.time, acc := c.acc + 1 } y1 w5 by rw [← hw5]; exact HM2.out)
 have hx5 : w5.heap[w.heap.size]? = w1.heap[w.heap.size]? := by rw [← hw5]; exact ((Below.heap_setCell _ _ _ _ (fun e => hgB e.symm)).trans (Below.heap_setCell _ _ _ _ (fun e => hgB e.symm))).trans zB
 have hs5 : w5.heap.size = wc.heap.size := by rw [← hw5]; simp [World.setCell]
 have hg0 : (0 : Nat) ≠ g := fun e => HF0.out (by rw [e]; exact HFg.out)
 have hz5 : w5.heap[0]? = w1.heap[0]? := by rw [← hw5]; exact ((Below.heap_setCell _ _ _ _ hg0).trans (Below.heap_setCell _ _ _ _ hg0)).trans (HOf1.out.block 0 (by omega) HF0.out)
 have HO5 := Lib.hid (show Off F w w5 by rw [← hw5]; exact (HOf.out.setCell (p := ⟨g, 18, none⟩) (.inl HFg.out) _).setCell (p := ⟨g, 22, none⟩) (.inl HFg.out) _)
 have HS5 := Lib.hid (show w5.cell? ⟨g, 21, none⟩ = some (.pointer (some ⟨y1.L, 0, none⟩)) ∧ w5.cell? ⟨w.heap.size, 0, none⟩ = some (.int .i64 x.kind) ∧ w5.cell? ⟨w.heap.size, 1, none⟩ = some (.int .i64 x.time) ∧ w5.cell? ⟨w.heap.size, 2, none⟩ = some (.string x.call) ∧ w5.cell? ⟨0, x.kind.toNat, none⟩ = some (.string (ks x.kind.toNat)) from ⟨HM5.out.cell 21, (HXa.out w5 hx5).1, (HXa.out w5 hx5).2.1, (HXa.out w5 hx5).2.2.1, (World.cell?_of_block (a := ⟨0, x.kind.toNat, none⟩) hz5).trans (HKs.out w1 HB1.out _ (by have := HQk.out; omega))⟩)
 clear hw5 HM2 z0 z1 z2 z3 z4 z5 z6 z7 z8 a18 a21 a22 b22 b18 hwr
 have hk0 := HQk.out.1
 have hk7 := HQk.out.2
 refine wp_region_held_drew (S := (fun W => W.cell? ⟨g, 21, none⟩ = some (.pointer (some ⟨y1.L, 0, none⟩)) ∧ W.cell? ⟨w.heap.size, 0, none⟩ = some (.int .i64 x.kind) ∧ W.cell? ⟨w.heap.size, 1, none⟩ = some (.int .i64 x.time) ∧ W.cell? ⟨w.heap.size, 2, none⟩ = some (.string x.call) ∧ W.cell? ⟨0, x.kind.toNat, none⟩ = some (.string (ks x.kind.toNat)))) (by kernel_rfl) HS5.out (fun hHeld => ?_)
 refine wpAnyH_take (i := 0) (oi := ⟨some 69, _, _, _, _, _⟩) (v := ?u0) rfl (by kernel_rfl) (by kernel_rfl) (by kernel_rfl) (fun _ _ _ h => h) (Or.inl ⟨by rfl, ?p0⟩) hHeld ?q0
 case p0 => (intro W hSw; (try dsimp only at hSw); (try obtain ⟨s0, s1, s2, s3, s4⟩ := hSw); go_simp; try with_reducible rfl)
 try simp only [Act.put, zI, zO, zS]
 refine wpAnyH_take (i := 1) (oi := ⟨some 70, _, _, _, _, _⟩) (v := ?u1) rfl (by kernel_rfl) (by kernel_rfl) (by kernel_rfl) (fun _ _ _ h => h) (Or.inl ⟨by rfl, ?p1⟩) hHeld ?q1
 case p1 => (intro W hSw; (try dsimp only at hSw); (try obtain ⟨s0, s1, s2, s3, s4⟩ := hSw); go_simp; try with_reducible rfl)
 try simp only [Act.put, zI, zO, zS]
 refine wpAnyH_take (i := 2) (oi := ⟨some 71, _, _, _, _, _⟩) (v := ?u2) rfl (by kernel_rfl) (by kernel_rfl) (by kernel_rfl) (fun _ _ _ h => h) (Or.inl ⟨by rfl, ?p2⟩) hHeld ?q2
 case p2 => (intro W hSw; (try dsimp only at hSw); (try obtain ⟨s0, s1, s2, s3, s4⟩ := hSw); go_simp; try with_reducible rfl)
 try simp only [Act.put, zI, zO, zS]
 refine wpAnyH_take (i := 3) (oi := ⟨some 72, _, _, _, _, _⟩) (v := ?u3) rfl (by kernel_rfl) (by kernel_rfl) (by kernel_rfl) (fun _ _ _ h => h) (Or.inl ⟨by rfl, ?p3⟩) hHeld ?q3
 case p3 => (intro W hSw; (try dsimp only at hSw); (try obtain ⟨s0, s1, s2, s3, s4⟩ := hSw); go_simp; try with_reducible rfl)
 try simp only [Act.put, zI, zO, zS]
 refine wpAnyH_take (i := 4) (oi := ⟨some 73, _, _, _, _, _⟩) (v := ?u4) rfl (by kernel_rfl) (by kernel_rfl) (by kernel_rfl) (fun _ _ _ h => h) (Or.inl ⟨by rfl, ?p4⟩) hHeld ?q4
 case p4 => (intro W hSw; (try dsimp only at hSw); (try obtain ⟨s0, s1, s2, s3, s4⟩ := hSw); go_simp; try with_reducible rfl)
 try simp only [Act.put, zI, zO, zS]
 refine wpAnyH_take (i := 5) (oi := ⟨some 74, _, _, _, _, _⟩) (v := ?u5) rfl (by kernel_rfl) (by kernel_rfl) (by kernel_rfl) (fun _ _ _ h => h) (Or.inl ⟨by rfl, ?p5⟩) hHeld ?q5
 case p5 => (intro W hSw; (try dsimp only at hSw); (try obtain ⟨s0, s1, s2, s3, s4⟩ := hSw); go_simp; try with_reducible rfl)
 try simp only [Act.put, zI, zO, zS]
 refine wpAnyH_take (i := 6) (oi := ⟨some 75, _, _, _, _, _⟩) (v := ?u6) rfl (by kernel_rfl) (by kernel_rfl) (by kernel_rfl) (fun _ _ _ h => h) (Or.inl ⟨by rfl, ?p6⟩) hHeld ?q6
 case p6 => (intro W hSw; (try dsimp only at hSw); (try obtain ⟨s0, s1, s2, s3, s4⟩ := hSw); go_simp; try with_reducible rfl)
 try simp only [Act.put, zI, zO, zS]
 refine wpAnyH_take (i := 7) (oi := ⟨some 76, _, _, _, _, _⟩) (v := ?u7) rfl (by kernel_rfl) (by kernel_rfl) (by kernel_rfl) (fun _ _ _ h => h) (Or.inl ⟨by rfl, ?p7⟩) hHeld ?q7
 case p7 => (intro W hSw; (try dsimp only at hSw); (try obtain ⟨s0, s1, s2, s3, s4⟩ := hSw); go_simp; try with_reducible rfl)
 try simp only [Act.put, zI, zO, zS]
 refine wpAnyH_take (i := 8) (oi := ⟨some 77, _, _, _, _, _⟩) (v := ?u8) rfl (by kernel_rfl) (by kernel_rfl) (by kernel_rfl) (fun _ _ _ h => h) (Or.inl ⟨by rfl, ?p8⟩) hHeld ?q8
 case p8 => (intro W hSw; (try dsimp only at hSw); (try obtain ⟨s0, s1, s2, s3, s4⟩ := hSw); go_simp; try with_reducible rfl)
 try simp only [Act.put, zI, zO, zS]
 refine wpAnyH_take (i := 9) (oi := ⟨some 78, _, _, _, _, _⟩) (v := ?u9) rfl (by kernel_rfl) (by kernel_rfl) (by kernel_rfl) (fun _ _ _ h => h) (Or.inl ⟨by rfl, ?p9⟩) hHeld ?q9
 case p9 => (intro W hSw; (try dsimp only at hSw); (try obtain ⟨s0, s1, s2, s3, s4⟩ := hSw); go_simp; try with_reducible rfl)
 try simp only [Act.put, zI, zO, zS]
 refine wpAnyH_take (i := 10) (oi := ⟨some 79, _, _, _, _, _⟩) (v := ?u10) rfl (by kernel_rfl) (by kernel_rfl) (by kernel_rfl) (fun _ _ _ h => h) (Or.inl ⟨by rfl, ?p10⟩) hHeld ?q10
 case p10 => (intro W hSw; (try dsimp only at hSw); (try obtain ⟨s0, s1, s2, s3, s4⟩ := hSw); go_simp; try with_reducible rfl)
 try simp only [Act.put, zI, zO, zS]
 refine wpAnyH_take (i := 11) (oi := ⟨some 80, _, _, _, _, _⟩) (v := ?u11) rfl (by kernel_rfl) (by kernel_rfl) (by kernel_rfl) (fun _ _ _ h => h) (Or.inl ⟨by rfl, ?p11⟩) hHeld ?q11
 case p11 => (intro W hSw; (try dsimp only at hSw); (try obtain ⟨s0, s1, s2, s3, s4⟩ := hSw); go_simp; try with_reducible rfl)
 try simp only [Act.put, zI, zO, zS]
 have hlg : d.log = c.log := by have := (meth_time (S := S) HOk.out H20.out x).1; rw [HRm.out] at this; exact this
 have hac : d.acc = c.acc := by have := (meth_time (S := S) HOk.out H20.out x).2; rw [HRm.out] at this; exact this
 have hz := add_zero (S := S) HOk.out H20.out (x := x) (by rw [HRm.out]) HKo.out (k := x.kind.toNat) (by omega) HQt.out.1 HQt.out.2
 rw [← hlg] at hz
 have hll : d.log.length ≤ 400 := by rw [hlg, HOk.out.log]; have := H20.out; omega
 have HM6 := Lib.hid (HM5.out.below (Below.refl w5.heap.size w5).drew)
 have HAd := Lib.hid (Add_ok (g := y1.L) (w := w5.drew) HM6.out.log x.time (ks x.kind.toNat) x.call hz.2 hz.1 hll)
 refine wpAnyH_ready (rs := [12]) (by kernel_rfl) (by simp) ?_
 refine (AllReadyH.cons (o := ⟨some 81, _, _, _, _, _⟩) rfl (fun K hK => ?_) AllReadyH.nil)
 go_simp
 go_at_call 30
 (with_reducible refine HAd.out.mono ?_)
 rintro e w6 hadd
 obtain ⟨rfl, hg6, F2, hc2, hof2, hsub2⟩ := log_fin HM6.out hadd
 have hb6 : w6.heap[w.heap.size]? = w5.heap[w.heap.size]? := hof2.block w.heap.size (by have := HO5.out.size; have := HOf1.out.size; show _ < w5.heap.size; omega) (fun h => (HSub1.out _ h).elim hBF (fun h => by omega))
 have hb0 : w6.heap[0]? = w5.heap[0]? := hof2.block 0 (by have := HO5.out.size; have := H0w.out; show _ < w5.heap.size; omega) (fun h => (HSub1.out _ h).elim HF0.out (fun h => by omega))
 have hS6 := (show w6.cell? ⟨g, 21, none⟩ = some (.pointer (some ⟨y1.L, 0, none⟩)) ∧ w6.cell? ⟨w.heap.size, 0, none⟩ = some (.int .i64 x.kind) ∧ w6.cell? ⟨w.heap.size, 1, none⟩ = some (.int .i64 x.time) ∧ w6.cell? ⟨w.heap.size, 2, none⟩ = some (.string x.call) ∧ w6.cell? ⟨0, x.kind.toNat, none⟩ = some (.string (ks x.kind.toNat)) from ⟨(World.cell?_of_block (a := ⟨g, 21, none⟩) hg6).trans HS5.out.1, (World.cell?_of_block (a := ⟨w.heap.size, 0, none⟩) hb6).trans HS5.out.2.1, (World.cell?_of_block (a := ⟨w.heap.size, 1, none⟩) hb6).trans HS5.out.2.2.1, (World.cell?_of_block (a := ⟨w.heap.size, 2, none⟩) hb6).trans HS5.out.2.2.2.1, (World.cell?_of_block (a := ⟨0, x.kind.toNat, none⟩) hb0).trans HS5.out.2.2.2.2⟩)
 refine hK.out _ _ hS6 (fun hHeld => ?_)
 clear hK K
 refine wpAnyH_done (by kernel_rfl) ?_ _
 have HRR : Hid (R (.returned (.int .i64 0)) w6) := Lib.hid (by
  rw [← HRe.out, HEq.out]
  refine ⟨rfl, F2, ?_, ⟨hof2.os.trans HO5.out.os, hof2.tape.trans HO5.out.tape, hof2.output.trans HO5.out.output, Nat.le_trans HO5.out.size hof2.size, fun k hk hF => (hof2.block k (Nat.lt_of_lt_of_le hk HO5.out.size) (fun h => (HSub.out _ h).elim hF (fun h => by omega))).trans (HO5.out.block k hk hF)⟩, fun b hb => (hsub2 b hb).elim (fun h => HSub.out b h) (fun h => .inr (Nat.le_trans HO5.out.size h))⟩
  have e : bookC ks d x = { { d with time := x.time, acc := c.acc + 1 } with log := d.log ++ [newE d.log x.time (ks x.kind.toNat) x.call] } := by unfold bookC newE; rw [hac]
  show CeAt F2 g S (bookC ks d x) w6
  rw [e]; exact hc2)
 clear hc2 hof2 hsub2 hb6 hb0 hS6 hg6 hz hlg hac hll
 go_wp2_with fail
 (try go_ret)
 exact HRR.out
end Go.Proofs.YtaebebpldkciiaaGreatDoor
