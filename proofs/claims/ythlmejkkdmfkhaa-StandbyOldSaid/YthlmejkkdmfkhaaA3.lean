/- Package standby: take, Drop, Repeat, Takeover. -/
import Derived.Test.YthlmejkkdmfkhaaA2
namespace Go.Proofs.Ythlmejkkdmfkhaa
open Go.RowKit

section
variable {g : Nat} {p : Pr} {vp vs vw : Value} {w : World}
def msgOf (m : Msg) : Value := .agg #[.int .i64 m.term, .int .i64 m.num, .bool m.ack, .string m.text]
/-- The cells of message k of the wire. -/
theorem wire_cells {g0 c : Nat} (h : w.ownsRow (g + 1) 46 4 (.slice (some ⟨g0, 0, none⟩) p.ws.length c) p.ws.length (msgsV p.ws)) {k : Nat} (hk : k < p.ws.length) :
    w.cell? ⟨g0, k * 4, none⟩ = some (.int .i64 p.ws[k]!.term) ∧ w.cell? ⟨g0, k * 4 + 1, none⟩ = some (.int .i64 p.ws[k]!.num) ∧ w.cell? ⟨g0, k * 4 + 2, none⟩ = some (.bool p.ws[k]!.ack) ∧ w.cell? ⟨g0, k * 4 + 3, none⟩ = some (.string p.ws[k]!.text) := by
  refine ⟨?_, ?_, ?_, ?_⟩
  · have := h.cellAt (k * 4) (by omega)
    rw [this, ← Nat.add_zero (k * 4), msgsV_get p.ws k 0 hk (by omega)]; rfl
  · rw [h.cellAt (k * 4 + 1) (by omega), msgsV_get p.ws k 1 hk (by omega)]; rfl
  · rw [h.cellAt (k * 4 + 2) (by omega), msgsV_get p.ws k 2 hk (by omega)]; rfl
  · rw [h.cellAt (k * 4 + 3) (by omega), msgsV_get p.ws k 3 hk (by omega)]; rfl

theorem PairAt.far (h : PairAt g p vp vs vw w) (b i : Nat) (x : Value) (hb : ¬ Own g vp vs vw b) : PairAt g p vp vs vw (w.setCell ⟨b, i, none⟩ x) :=
  ⟨(heap_setCell_other _ _ _ _ (fun e => hb (.inl e.symm))).trans h.blk, h.op.kept (grown_setCell _ _ _ _) (.inr fun e => hb (.inr (.inl e))), h.os.kept (grown_setCell _ _ _ _) (.inr fun e => hb (.inr (.inr (.inl e)))), h.ow.kept (grown_setCell _ _ _ _) (.inr fun e => hb (.inr (.inr (.inr e)))), h.a1, h.a2, h.a3⟩
theorem Ch.far {O O' : Nat → Prop} {w' : World} (h : Ch g O O' w w') (b i : Nat) (x : Value) (hb : w.heap.size ≤ b) (hg : g ≤ b) : Ch g O O' w (w'.setCell ⟨b, i, none⟩ x) :=
  ⟨h.below.setCell (p := ⟨b, i, none⟩) hg x, fun k hk ho => (heap_setCell_other _ _ _ _ (by show k ≠ b; omega)).trans (h.keep k hk ho), h.fresh⟩

set_option maxRecDepth 100000 in
set_option maxHeartbeats 2000000 in
theorem take_yes (h : PairAt g p vp vs vw w) (k : Nat) (hk : k < p.ws.length) (hn : p.ws.length ≤ 1000) :
    Calls Try.prog 31 #[.pointer (some ⟨g, 0, none⟩), .int .i64 (k : Int)] w (Pp g (Own g vp vs vw) (p.take k) (.returned (.tuple #[msgOf p.ws[k]!, .int .i64 0])) w) := by
  have ho := h.ow
  obtain ⟨A, c, rfl⟩ := own_shape ho
  obtain ⟨g0, cap, hv, hg0, hlt0⟩ := ho.form (by omega)
  have hA : A = some ⟨g0, 0, none⟩ := by injection hv
  subst hA
  have c2 := h.cell 2
  have f2 := h.frozen 2
  obtain ⟨o0, o1, o2, o3⟩ := wire_cells ho hk
  have hlt := h.lt
  have HH := Lib.hid h
  have herase := msgsV_erase p.ws k hk
  have hel : (p.ws.eraseIdx k).length + 1 = p.ws.length := by rw [List.length_eraseIdx]; rw [if_pos hk]; omega
  have HE := Lib.hid herase
  have HL := Lib.hid hel
  have k0 : (0 : Int) ≤ (k : Int) := by omega
  have kn : (k : Int) < (p.ws.length : Int) := by omega
  have hkw : IntKind.i64.wrap ((k : Int) + 1) = (k : Int) + 1 := IntWalk.i64_in _ (by omega)
  have hm : ∃ m, p.ws[k]! = m := ⟨_, rfl⟩
  obtain ⟨m, hm⟩ := hm
  rw [hm] at o0 o1 o2 o3 ⊢
  obtain ⟨m1, m2, m3, m4⟩ := m
  have hne : g ≠ w.heap.size := by omega
  have hne0 : g0 ≠ w.heap.size := by omega
  have hne1 : g ≠ w.heap.size + 1 := by omega
  have hb2 : Below w.heap.size w ((w.alloc (.cells #[.int .i64 0, .int .i64 0, .bool false, .string { data := #[] }] 46)).alloc (.cells #[.int .i64 m1, .int .i64 m2, .bool m3, .string m4] 46)) := ((Below.refl _ _).alloc (Nat.le_refl _) _).alloc (by simp) _
  have HB2 := Lib.hid hb2
  have s1 := heap_alloc_new (w.alloc (.cells #[.int .i64 0, .int .i64 0, .bool false, .string { data := #[] }] 46)) (.cells #[.int .i64 m1, .int .i64 m2, .bool m3, .string m4] 46)
  have s0 := (Below.heap_alloc (w.alloc (.cells #[.int .i64 0, .int .i64 0, .bool false, .string { data := #[] }] 46)) (.cells #[.int .i64 m1, .int .i64 m2, .bool m3, .string m4] 46) w.heap.size (by simp)).trans (heap_alloc_new w _)
  rw [World.size_alloc] at s1
  have HS0 := Lib.hid (And.intro s0 s1)
  clear s0 s1
  have HW := Lib.hid (h.below hb2)
  clear hb2
  generalize hq : p.ws.length = n at *
  have HQ := Lib.hid hq
  clear h ho hv herase hel hm hq
  simp only [] at o0 o1 o2 o3
  go_enter Try.func31, Try.ntmps31
  obtain ⟨q, hq⟩ : ∃ q, (p.ws.eraseIdx k).length = q := ⟨_, rfl⟩
  have hqn : q + 1 = n := by have := HL.out; omega
  have HQ2 := Lib.hid hq
  have HQN := Lib.hid hqn
  clear hq hqn
  go_wp2_with (go_at_call 34; go_loud (refine (DeleteMs_at (g + 1) g0 n c k (k + 1) _ _ rfl (by omega) (msgsV p.ws) _ ((by have := HW.out.ow; rw [HQ.out] at this; exact this)) (msgsV_one _) (n - (k + 1)) q (by omega) (by omega) (by have := HQN.out; omega)).mono ?_; rintro e w4 ⟨rfl, hv4, hg4⟩; rw [HE.out] at hv4; obtain ⟨r1, r2, r3⟩ := HW.out.wire (w1 := w4) (v' := .slice (some ⟨g0, 0, none⟩) q c) (o := .cells #[] 0) (.inl rfl) (l := p.ws.eraseIdx k) (by rw [HQ2.out]; exact hv4) (by exact hg4) (N := w.heap.size + 2) (.inl rfl) (by simp); have d2 := cell_of_row w4 g 2 _ 39 (0, 0) r3; have e2 := frozen_of_row w4 g 2 _ 39 r3; have R := Lib.hid (And.intro r1 r2); have hS := (hg4.block w.heap.size (by simp; omega) (fun e => by injection e with e; omega)).trans HS0.out.1; have hS1 := (hg4.block (w.heap.size + 1) (by simp) (fun e => by injection e with e; omega)).trans HS0.out.2; have y0 : w4.cell? ⟨w.heap.size + 1, 0, none⟩ = some (.int .i64 m1) := cell_of_row w4 _ 0 _ 46 (0, 0) hS1; have y1 : w4.cell? ⟨w.heap.size + 1, 1, none⟩ = some (.int .i64 m2) := cell_of_row w4 _ 1 _ 46 (0, 0) hS1; have y2 : w4.cell? ⟨w.heap.size + 1, 2, none⟩ = some (.bool m3) := cell_of_row w4 _ 2 _ 46 (0, 0) hS1; have y3 : w4.cell? ⟨w.heap.size + 1, 3, none⟩ = some (.string m4) := cell_of_row w4 _ 3 _ 46 (0, 0) hS1; have z0 : w4.cell? ⟨w.heap.size, 0, none⟩ = some (.int .i64 0) := cell_of_row w4 _ 0 _ 46 (0, 0) hS; have z1 : w4.cell? ⟨w.heap.size, 1, none⟩ = some (.int .i64 0) := cell_of_row w4 _ 1 _ 46 (0, 0) hS; have z2 : w4.cell? ⟨w.heap.size, 2, none⟩ = some (.bool false) := cell_of_row w4 _ 2 _ 46 (0, 0) hS; have z3 : w4.cell? ⟨w.heap.size, 3, none⟩ = some (.string { data := #[] }) := cell_of_row w4 _ 3 _ 46 (0, 0) hS; have zf := fun i => frozen_of_row w4 w.heap.size i _ 46 hS; clear r1 r2 r3 hS hS1))
  obtain ⟨r1, r2⟩ := R.out
  have hno : ¬ Own g vp vs (.slice (some ⟨g0, 0, none⟩) q c) w.heap.size := fun h => by
    have := (Own.ge HH.out (k := w.heap.size) h).2
    omega
  have r3 := (Ch.of_below (O := Own g vp vs (.slice (some ⟨g0, 0, none⟩) n c)) HB2.out (Nat.le_of_lt hlt)).trans r2
  have hgS : g ≤ w.heap.size := Nat.le_of_lt hlt
  refine bodyPost_ret (v := .tuple #[msgOf ⟨m1, m2, m3, m4⟩, .int .i64 0]) (by unfold msgOf; simp [results, Try.results31, go_sem, z0, z1, z2, z3]) rfl ⟨_, _, _, rfl, (((r1.far _ 0 _ hno).far _ 1 _ hno).far _ 2 _ hno).far _ 3 _ hno, (((r3.far _ 0 _ (Nat.le_refl _) hgS).far _ 1 _ (Nat.le_refl _) hgS).far _ 2 _ (Nat.le_refl _) hgS).far _ 3 _ (Nat.le_refl _) hgS⟩
end
end Go.Proofs.Ythlmejkkdmfkhaa
