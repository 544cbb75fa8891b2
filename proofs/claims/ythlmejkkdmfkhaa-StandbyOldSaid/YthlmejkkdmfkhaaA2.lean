/- Package standby: what only reads; New, message, send. -/
import Derived.Test.YthlmejkkdmfkhaaA1
import Derived.Test.YthlmejkkdmfkhaaCut
import Derived.Test.YthlmejkkdmfkhaaCloneStr
import Derived.Test.YthlmejkkdmfkhaaCloneMs
import Derived.Test.YthlmejkkdmfkhaaDelMs
import Derived.BigQuiet
import Derived.Deep.QuietTactic
import Derived.StillTailTactics
import Derived.Deep.RegionHeld3
import Derived.Deep.DeepMust
import Derived.IntWalk
import Derived.Outline
namespace Go.Proofs.Ythlmejkkdmfkhaa
open Go.RowKit

theorem str_info : (Try.prog.info? 9).map (fun i => (i.zero, i.size, i.bytes)) = some (some (.string ByteArray.empty), 1, 16) := by kernel_rfl
theorem msg_info : (Try.prog.info? 46).map (fun i => (i.zero, i.size, i.bytes)) = some (some (.agg #[.int .i64 0, .int .i64 0, .bool false, .string ByteArray.empty]), 4, 40) := by kernel_rfl

section
variable {g : Nat} {p : Pr} {vp vs vw : Value} {w : World}
theorem New_any (w : World) : Calls Try.prog 7 #[] w fun e w' => e = .returned (.pointer (some ⟨w.heap.size, 0, none⟩)) ∧ PairAt w.heap.size ⟨[], [], [], 1, 0, 0⟩ (.slice none 0 0) (.slice none 0 0) (.slice none 0 0) w' ∧ Below w.heap.size w w' := by
  go_enter Try.func7, Try.ntmps7
  go_wp2
  go_ret
  exact ⟨rfl, ⟨heap_alloc_new w _, World.ownsRow_nil _ _ _ _, World.ownsRow_nil _ _ _ _, World.ownsRow_nil _ _ _ _, apart_nil, apart_nil, apart_nil⟩, (Below.refl _ _).alloc (Nat.le_refl _) _⟩
theorem Answered_any (h : PairAt g p vp vs vw w) : Calls Try.prog 12 #[.pointer (some ⟨g, 0, none⟩)] w fun e w' => e = .returned (.int .i64 p.ans) ∧ w = w' := by
  have c := h.cell 5
  clear h
  go_enter Try.func12, Try.ntmps12
  go_wp2
  go_ret
  exact ⟨rfl, rfl⟩
theorem Done_any (h : PairAt g p vp vs vw w) : Calls Try.prog 14 #[.pointer (some ⟨g, 0, none⟩)] w fun e w' => e = .returned (.int .i64 p.done) ∧ w = w' := by
  have c := h.cell 4
  clear h
  go_enter Try.func14, Try.ntmps14
  go_wp2
  go_ret
  exact ⟨rfl, rfl⟩
theorem Term_any (h : PairAt g p vp vs vw w) : Calls Try.prog 24 #[.pointer (some ⟨g, 0, none⟩)] w fun e w' => e = .returned (.int .i64 p.term) ∧ w = w' := by
  have c := h.cell 3
  clear h
  go_enter Try.func24, Try.ntmps24
  go_wp2
  go_ret
  exact ⟨rfl, rfl⟩

/-- What a copy of a row of texts leaves. -/
def Strs (l : List ByteArray) (w : World) (e : Ending) (w' : World) : Prop := ∃ A c, e = .returned (.slice A l.length c) ∧ w'.ownsRow w.heap.size 9 1 (.slice A l.length c) l.length (strsV l) ∧ Below w.heap.size w w'
theorem CloneStrs (A : Option Addr) (c : Nat) (l : List ByteArray) (w : World) (hA : Sl w w.heap.size 1 A l.length (rowS l)) (hnil : A = none → l.length = 0) (hn : l.length ≤ 1000) :
    Calls Try.prog 15 #[.slice A l.length c] w (Strs l w) := by
  refine (CloneStr_any A l.length c (rowS l) w hA (fun _ _ => rfl) (fun i _ u hu => by simp [rowS] at hu; subst hu; rfl) hnil (by unfold maxLen; omega) (by omega)).mono ?_
  rintro e w' ⟨v, rfl, hv, hb⟩
  obtain ⟨A2, c2, rfl⟩ := own_shape hv
  rw [rowS_flat] at hv
  exact ⟨A2, c2, rfl, hv, hb⟩
theorem Primary_any (h : PairAt g p vp vs vw w) (hn : p.ps.length ≤ 1000) : Calls Try.prog 11 #[.pointer (some ⟨g, 0, none⟩)] w (Strs p.ps w) := by
  obtain ⟨A, c, rfl⟩ := own_shape h.op
  have c0 := h.cell 0
  have ho := h.op
  rw [← rowS_flat] at ho
  have hcl := CloneStrs A c p.ps w (Sl_flat (fun _ _ => rfl) ho) (fun hA => (own_nil ho hA).1) hn
  have HC := Lib.hid hcl
  clear h ho hcl
  go_enter Try.func11, Try.ntmps11
  go_wp2_with (go_at_call 15; refine HC.out.mono ?_; rintro e w2 ⟨A2, c2, rfl, hv2, hb2⟩)
  go_ret
  exact ⟨_, _, rfl, hv2, hb2⟩
theorem Standby_any (h : PairAt g p vp vs vw w) (hn : p.ss.length ≤ 1000) : Calls Try.prog 17 #[.pointer (some ⟨g, 0, none⟩)] w (Strs p.ss w) := by
  obtain ⟨A, c, rfl⟩ := own_shape h.os
  have c1 := h.cell 1
  have ho := h.os
  rw [← rowS_flat] at ho
  have hcl := CloneStrs A c p.ss w (Sl_flat (fun _ _ => rfl) ho) (fun hA => (own_nil ho hA).1) hn
  have HC := Lib.hid hcl
  clear h ho hcl
  go_enter Try.func17, Try.ntmps17
  go_wp2_with (go_at_call 15; refine HC.out.mono ?_; rintro e w2 ⟨A2, c2, rfl, hv2, hb2⟩)
  go_ret
  exact ⟨_, _, rfl, hv2, hb2⟩
def Wires (n : Nat) (w : World) (e : Ending) (w' : World) : Prop := ∃ A c, e = .returned (.slice A n c) ∧ Below w.heap.size w w'
theorem Wire_any (h : PairAt g p vp vs vw w) (hn : p.ws.length ≤ 1000) : Calls Try.prog 19 #[.pointer (some ⟨g, 0, none⟩)] w (Wires p.ws.length w) := by
  obtain ⟨A, c, rfl⟩ := own_shape h.ow
  have c2 := h.cell 2
  have ho := h.ow
  rw [← rowM_flat] at ho
  have hcl := CloneMs_any A p.ws.length c (rowM p.ws) w (Sl_flat (fun _ _ => rfl) ho) (fun _ _ => rfl) (fun i _ u hu => msgV_one _ u hu) (fun hA => (own_nil ho hA).1) (by unfold maxLen; omega) (by omega)
  have HC := Lib.hid hcl
  clear h ho hcl
  go_enter Try.func19, Try.ntmps19
  go_wp2_with (go_at_call 30; refine HC.out.mono ?_; rintro e w2 ⟨v2, rfl, hv2, hb2⟩; obtain ⟨A2, c2', rfl⟩ := own_shape hv2)
  go_ret
  exact ⟨_, _, rfl, hb2⟩

set_option maxHeartbeats 1000000 in
theorem message_any (h : PairAt g p vp vs vw w) (i : Nat) (hi : i < p.ps.length) (hn : p.ps.length ≤ 1000) (k : Int) (hk : k = (i : Int) + 1) :
    Calls Try.prog 32 #[.pointer (some ⟨g, 0, none⟩), .int .i64 k] w fun e w' => e = .returned (.agg #[.int .i64 p.term, .int .i64 k, .bool false, .string (textAt p i)]) ∧ Below w.heap.size w w' := by
  have ho := h.op
  obtain ⟨A, c, rfl⟩ := own_shape ho
  obtain ⟨g0, cap, hv, hg0, hlt0⟩ := ho.form (by omega)
  have hA : A = some ⟨g0, 0, none⟩ := by injection hv
  subst hA
  have c0 := h.cell 0
  have c3 := h.cell 3
  have hx : w.cell? ⟨g0, i, none⟩ = some (.string (textAt p i)) := by
    rw [ho.cellAt i (by omega)]
    unfold strsV textAt
    simp [hi]
  have hlt := h.lt
  have hkw : IntKind.i64.wrap (k - 1) = (i : Int) := by subst hk; rw [IntWalk.i64_in _ (by omega)]; omega
  have hi0 : (0 : Int) ≤ (i : Int) := by omega
  have hi1 : (i : Int) < (p.ps.length : Int) := by omega
  have hne : g ≠ w.heap.size := by omega
  have hne0 : g0 ≠ w.heap.size := by omega
  have c0 := (World.cell?_alloc_lt w (.cells #[.int .i64 0, .int .i64 0, .bool false, .string { data := #[] }] 46) ⟨g, 0, none⟩ hlt).trans c0
  have c3 := (World.cell?_alloc_lt w (.cells #[.int .i64 0, .int .i64 0, .bool false, .string { data := #[] }] 46) ⟨g, 3, none⟩ hlt).trans c3
  have hx := (World.cell?_alloc_lt w (.cells #[.int .i64 0, .int .i64 0, .bool false, .string { data := #[] }] 46) ⟨g0, i, none⟩ hlt0).trans hx
  have hB := heap_alloc_new w (.cells #[.int .i64 0, .int .i64 0, .bool false, .string { data := #[] }] 46)
  have hbel : Below w.heap.size w (w.alloc (.cells #[.int .i64 0, .int .i64 0, .bool false, .string { data := #[] }] 46)) := (Below.refl _ _).alloc (Nat.le_refl _) _
  have HBEL := Lib.hid hbel
  have HB := Lib.hid hB
  generalize p.ps.length = n at *
  clear h ho hv hk hbel hB
  go_enter Try.func32, Try.ntmps32
  go_wp2
  generalize w.alloc (.cells #[.int .i64 0, .int .i64 0, .bool false, .string { data := #[] }] 46) = W at *
  go_still_tail 14, (by kernel_rfl)
  change wpList _ _ _ _ _ W.drew
  have b0 : W.cell? ⟨w.heap.size, 0, none⟩ = some (.int .i64 0) := cell_of_row W w.heap.size 0 _ 46 (0, 0) HB.out
  have b1 : W.cell? ⟨w.heap.size, 1, none⟩ = some (.int .i64 0) := cell_of_row W w.heap.size 1 _ 46 (0, 0) HB.out
  have b2 : W.cell? ⟨w.heap.size, 2, none⟩ = some (.bool false) := cell_of_row W w.heap.size 2 _ 46 (0, 0) HB.out
  have b3 : W.cell? ⟨w.heap.size, 3, none⟩ = some (.string { data := #[] }) := cell_of_row W w.heap.size 3 _ 46 (0, 0) HB.out
  have fb := fun i => frozen_of_row W w.heap.size i _ 46 HB.out
  go_wp2
  refine bodyPost_ret (v := .agg #[.int .i64 p.term, .int .i64 k, .bool false, .string (textAt p i)]) (by simp [results, Try.results32, go_sem, b0, b1, b2, b3]) rfl ⟨rfl, ?_⟩
  exact ((((HBEL.out.setCell (p := ⟨w.heap.size, 0, none⟩) (Nat.le_refl _) _).setCell (p := ⟨w.heap.size, 1, none⟩) (Nat.le_refl _) _).setCell (p := ⟨w.heap.size, 2, none⟩) (Nat.le_refl _) _).setCell (p := ⟨w.heap.size, 3, none⟩) (Nat.le_refl _) _).drew

set_option maxHeartbeats 2000000 in
theorem send_any (h : PairAt g p vp vs vw w) (l : List Msg) (A : Option Addr) (c : Nat) (hA : Sl w w.heap.size 4 A l.length (rowM l)) (hnil : A = none → l.length = 0) (hn : p.ws.length ≤ 1000) (hl : l.length ≤ 1000) :
    Calls Try.prog 33 #[.pointer (some ⟨g, 0, none⟩), .slice A l.length c] w (Pp g (Own g vp vs vw) (p.push l) (.returned (.int .i64 (p.pushE l))) w) := by
  obtain ⟨V, cv, rfl⟩ := own_shape h.ow
  have c2 := h.cell 2
  have f2 := h.frozen 2
  have hlt := h.lt
  obtain ⟨i0, J0, J1, J2, J3⟩ := info_parts msg_info
  have HH := Lib.hid h
  have HA := Lib.hid hA
  have HN := Lib.hid hnil
  generalize hm : l.length = m at *
  generalize hq : p.ws.length = n at *
  have HM := Lib.hid hm
  have HQ := Lib.hid hq
  clear h hA hnil hm hq
  have n0 : (0 : Int) ≤ (n : Int) := by omega
  have m0 : (0 : Int) ≤ (m : Int) := by omega
  by_cases hfit : n + m ≤ 64
  · have hf : Hid (p.push l = { p with ws := p.ws ++ l } ∧ p.pushE l = 0) := Lib.hid (by unfold Pr.push Pr.pushE; rw [HM.out, HQ.out, if_pos hfit, if_pos hfit]; exact ⟨rfl, rfl⟩)
    go_enter Try.func33, Try.ntmps33
    go_wp2_with (at_builtin; go_loud (refine wpList_append_l rfl (.tmp 18) (.tmp 19) 33 rfl (g + 1) 46 i0 (.agg #[.int .i64 0, .int .i64 0, .bool false, .string ByteArray.empty]) 4 40 Try.underlying33 J0 J1 J2 J3 rfl (by decide) (.slice V n cv) n (msgsV p.ws) rfl (by have := HH.out.ow; rw [HQ.out] at this; exact this) A m c (rowM l) rfl w.heap.size HA.out (fun _ _ => rfl) (by rw [← HM.out, rowM_flat]; exact msgsV_one l) (by omega) (by decide) (by omega) HN.out ?_); intro v1 w1 hv1 hg1 hat1; obtain ⟨A1, c1, rfl⟩ := own_shape hv1; obtain ⟨r1, r2, r3⟩ := HH.out.wire (o := .cells #[] 0) (.inl rfl) (l := p.ws ++ l) (by rw [List.length_append, HM.out, HQ.out]; have := hv1; rw [← HM.out, rowM_flat, msgsV_append, HM.out] at this; exact this) (by exact hg1) (by exact hat1) (Nat.le_refl _); have d2 := cell_of_row w1 g 2 _ 39 (0, 0) r3; have e2 := frozen_of_row w1 g 2 _ 39 r3; have R := Lib.hid (And.intro r1 r2); clear r1 r2 r3)
    go_ret
    rw [hf.out.1, hf.out.2]
    obtain ⟨r1, r2⟩ := R.out
    exact ⟨_, _, _, rfl, r1, r2⟩
  · have hf : Hid (p.push l = p ∧ p.pushE l = 9) := Lib.hid (by unfold Pr.push Pr.pushE; rw [HM.out, HQ.out, if_neg hfit, if_neg hfit]; exact ⟨rfl, rfl⟩)
    go_enter Try.func33, Try.ntmps33
    go_wp2
    go_ret
    rw [hf.out.1, hf.out.2]
    have hh := HH.out
    exact ⟨_, _, _, rfl, hh, Ch.refl _ _ _⟩
end
end Go.Proofs.Ythlmejkkdmfkhaa
