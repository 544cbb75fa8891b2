/- Package hold: Leave of the lowest flight; List. -/
import Derived.Test.YtjiofgfdfljgmaaA4
namespace Go.Proofs.Ytjiofgfdfljgmaa
open Go.RowKit

theorem lvs_cons (x : Lv) (ls : List Lv) : lvs (x :: ls) = lvV x ++ lvs ls := by
  unfold lvs flatR
  rw [List.length_cons, List.range_succ_eq_map, List.flatMap_cons]
  congr 1
  rw [List.flatMap_map]
  rw [List.flatMap_def, List.flatMap_def]
  congr 1
theorem lvs_len (ls : List Lv) : (lvs ls).length = ls.length * 3 := flatR_len ls.length (fun _ _ => rfl)
theorem lvs_one (ls : List Lv) : ∀ u ∈ lvs ls, u.oneCell' = true := fun u hu => by
  obtain ⟨i, _, hu⟩ := flatR_mem hu
  exact lvV_one _ u hu

/-- The lowest flight is gone. -/
theorem StackAt.pop {g : Nat} {lo hi st now : Int} {v : Value} {x : Lv} {ls : List Lv} {W w3 : World} (h : StackAt g lo hi st now v (x :: ls) W) {g3 cap3 : Nat} (hvb : v.ownBlock = some g3)
    (hv3 : w3.ownsRow (g + 1) 39 3 (.slice (some ⟨g3, 0, none⟩) ls.length cap3) ls.length (lvs ls)) (hg3 : W.grownBy w3 (some g3)) :
    StackAt g lo hi st now (.slice (some ⟨g3, 0, none⟩) ls.length cap3) ls (w3.setCell ⟨g, 3, none⟩ (.slice (some ⟨g3, 0, none⟩) ls.length cap3)) ∧ Upd g v (.slice (some ⟨g3, 0, none⟩) ls.length cap3) W (w3.setCell ⟨g, 3, none⟩ (.slice (some ⟨g3, 0, none⟩) ls.length cap3)) := by
  have hlt3 : g < g3 := (h.own.lt g3 hvb).1
  have hb := (hg3.block g h.lt (fun e => by injection e with e; omega)).trans h.blk
  have hs := heap_setCell_same w3 g 3 _ 46 (.slice (some ⟨g3, 0, none⟩) ls.length cap3) hb
  refine ⟨⟨by simpa using hs, hv3.kept (grown_setCell _ _ _ _) (own_ne hv3 (Nat.lt_succ_self g))⟩, ?_⟩
  exact ⟨((Below.refl g W).grown hg3 (Nat.le_of_lt h.lt) (fun k hk => by injection hk with hk; omega)).setCell (p := ⟨g, 3, none⟩) (Nat.le_refl _) _, fun k hk h1 h2 => by rw [heap_setCell_other _ _ _ _ h1]; exact hg3.block k hk (fun e => h2 (hvb.trans e.symm)), .inl hvb.symm⟩

set_option maxRecDepth 100000 in
set_option maxHeartbeats 4000000 in
theorem Leave_ok {g : Nat} {lo hi st now : Int} {v : Value} {x : Lv} {ls : List Lv} {w : World} (h : StackAt g lo hi st now v (x :: ls) w) (t : Int) (hn : ls.length ≤ 1000) (hx : 0 ≤ x.2.2 ∧ x.2.2 ≤ t) (hwr : wrongB now t = false) :
    Calls Try.prog 10 #[.pointer (some ⟨g, 0, none⟩), .string x.1, .int .i64 t] w fun e w' => ∃ v', e = .returned (.tuple #[.int .i64 (t - x.2.2), .int .i64 0]) ∧ StackAt g lo hi st t v' ls w' ∧ Upd g v v' w w' := by
  have ht2 : t ≤ 200000 := by
    unfold wrongB at hwr
    simp at hwr
    omega
  obtain ⟨A, c, rfl⟩ := h.shape
  obtain ⟨g0, cap, hv, _, hlt0⟩ := h.own.form (by simp)
  have hA : A = some ⟨g0, 0, none⟩ := by injection hv
  subst hA
  have hlt0' : g < g0 := (h.own.lt g0 rfl).1
  have c3 : w.cell? ⟨g, 3, none⟩ = some (.slice (some ⟨g0, 0, none⟩) (ls.length + 1) c) := h.cell 3
  have c4 := h.cell 4
  have f3 := h.frozen 3
  have f4 := h.frozen 4
  have hlt := h.lt
  have hrow : w.cell? ⟨g0, 2, none⟩ = some (.int .i64 x.2.2) := by
    rw [h.own.cellAt 2 (by simp; omega), lvs_cons]; rfl
  have hne : g0 ≠ g := by omega
  have HH := Lib.hid h
  have HWR := Lib.hid hwr
  have hsw : IntKind.i64.wrap (t - x.2.2) = t - x.2.2 := IntWalk.i64_in _ (by omega)
  have hl0 : (0 : Int) ≤ (ls.length : Int) := by omega
  clear h hwr hv
  go_enter Try.func10, Try.ntmps10
  go_wp2_with (first
    | (go_at_call 18; go_loud (refine (index_any HH.out x.1).mono ?_; rintro e w2 ⟨he2, hb2⟩; rw [idxL_head] at he2; subst he2; obtain ⟨hc2, hf2⟩ := bcell hb2; have HS2 := Lib.hid (HH.out.below hb2); have hg2 := HS2.out.lt))
    | (go_at_call 19; go_loud (refine (wrong_any HS2.out t).mono ?_; rintro e w3 ⟨he3, rfl⟩; rw [HWR.out] at he3; subst he3; have hT2 := HS2.out.time t; have HT2 := Lib.hid hT2; clear hT2))
    | (go_at_call 20; go_loud (refine (DeleteLv_at (g + 1) g0 (ls.length + 1) c 0 1 0 1 rfl rfl (lvs (x :: ls)) _ HT2.out.1.own (lvs_one _) ls.length ls.length (by decide) (by omega) (by omega)).mono ?_; rintro e w4 ⟨rfl, hv4, hg4⟩; rw [show (lvs (x :: ls)).take (0 * 3) ++ (lvs (x :: ls)).drop (1 * 3) = lvs ls by rw [lvs_cons]; rfl] at hv4; have hb4 := (hg4.block g HT2.out.1.lt (fun e => by injection e with e; omega)).trans HT2.out.1.blk; have d3 := cell_of_row w4 g 3 _ 46 (0, 0) hb4; have e3 := frozen_of_row w4 g 3 _ 46 hb4; have HB4 := Lib.hid hb4; clear hb4)))
  go_ret2
  obtain ⟨p1, p2⟩ := HT2.out.1.pop rfl hv4 hg4
  exact ⟨_, rfl, p1, Upd.pre (Nat.le_of_lt hlt) hb2 (HT2.out.2.trans p2)⟩

set_option maxHeartbeats 1000000 in
theorem List_any {g : Nat} {lo hi st now : Int} {v : Value} {ls : List Lv} {w : World} (h : StackAt g lo hi st now v ls w) (hn : ls.length ≤ 1000) :
    Calls Try.prog 12 #[.pointer (some ⟨g, 0, none⟩)] w fun e w' => ∃ A c, e = .returned (.slice A ls.length c) ∧ w'.ownsRow w.heap.size 39 3 (.slice A ls.length c) ls.length (lvs ls) ∧ Below w.heap.size w w' := by
  obtain ⟨A, c, rfl⟩ := h.shape
  have c3 := h.cell 3
  have hcl := CloneLv_any A ls.length c (fun i => lvV ls[i]!) w h.row (fun _ _ => rfl) (fun i _ u hu => lvV_one _ u hu) (fun hA => (own_nil h.own hA).1) (by unfold maxLen; omega) (by omega)
  have HH := Lib.hid h
  clear h
  go_enter Try.func12, Try.ntmps12
  go_wp2_with (go_at_call 22; refine hcl.mono ?_; rintro e w2 ⟨v2, rfl, hv2, hb2⟩; obtain ⟨A2, c2, rfl⟩ := own_shape hv2)
  go_ret
  exact ⟨_, _, rfl, hv2, hb2⟩
end Go.Proofs.Ytjiofgfdfljgmaa
