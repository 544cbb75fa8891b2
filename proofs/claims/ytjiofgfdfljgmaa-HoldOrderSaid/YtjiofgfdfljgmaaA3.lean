/- Package hold: Enter. -/
import Derived.Test.YtjiofgfdfljgmaaA2
namespace Go.Proofs.Ytjiofgfdfljgmaa
open Go.RowKit

/-- How high the next flight would enter. -/
def topH (lo st : Int) (ls : List Lv) : Int := match ls.getLast? with | none => lo | some x => x.2.1 + st
theorem topH_nil (lo st : Int) : topH lo st [] = lo := rfl
theorem topH_snoc (lo st : Int) (ls : List Lv) (x : Lv) : topH lo st (ls ++ [x]) = x.2.1 + st := by simp [topH]
def entB (now hi lo st t : Int) (ls : List Lv) (call : ByteArray) : Bool := nameB call && decide (idxL ls call < 0) && !wrongB now t && decide (topH lo st ls ≤ hi)

theorem lv_info : (Try.prog.info? 39).map (fun i => (i.zero, i.size, i.bytes)) = some (some (.agg #[.string ByteArray.empty, .int .i64 0, .int .i64 0]), 3, 32) := by kernel_rfl

/-- Behind the append: the stack holds one flight more. -/
theorem StackAt.push {g : Nat} {lo hi st now : Int} {v : Value} {ls : List Lv} {W w3 : World} (h : StackAt g lo hi st now v ls W) (x : Lv) {g3 cap3 : Nat} {o : Obj}
    (hv3 : w3.ownsRow (g + 1) 39 3 (.slice (some ⟨g3, 0, none⟩) (ls.length + 1) cap3) (ls.length + 1) (lvs ls ++ lvV x)) (hg3 : (W.alloc o).grownBy w3 v.ownBlock) (hat : v.ownBlock = some g3 ∨ g3 = W.heap.size + 1) :
    StackAt g lo hi st now (.slice (some ⟨g3, 0, none⟩) (ls.length + 1) cap3) (ls ++ [x]) (w3.setCell ⟨g, 3, none⟩ (.slice (some ⟨g3, 0, none⟩) (ls.length + 1) cap3)) ∧ Upd g v (.slice (some ⟨g3, 0, none⟩) (ls.length + 1) cap3) W (w3.setCell ⟨g, 3, none⟩ (.slice (some ⟨g3, 0, none⟩) (ls.length + 1) cap3)) := by
  have hb := heap_app h.own (Nat.lt_succ_self g) h.lt h.blk hg3
  have hs := heap_setCell_same w3 g 3 _ 46 (.slice (some ⟨g3, 0, none⟩) (ls.length + 1) cap3) hb
  have hlt3 : g < g3 := (hv3.lt g3 rfl).1
  refine ⟨⟨by simpa using hs, ?_⟩, ?_⟩
  · rw [lvs_snoc, List.length_append, List.length_singleton]
    exact hv3.kept (grown_setCell _ _ _ _) (own_ne hv3 (Nat.lt_succ_self g))
  · refine ⟨((((Below.refl g W).alloc (Nat.le_of_lt h.lt) o).grown hg3 (by simp; have := h.lt; omega) (fun k hk => by have := (h.own.lt k hk).1; omega))).setCell (p := ⟨g, 3, none⟩) (Nat.le_refl _) _, fun k hk h1 h2 => ?_, ?_⟩
    · rw [heap_setCell_other _ _ _ _ h1, hg3.block k (by simp; omega) (fun e => h2 e.symm)]
      exact Below.heap_alloc W o k hk
    · rcases hat with e | e
      · exact .inl e.symm
      · exact .inr ⟨g3, rfl, by omega⟩

theorem StackAt.time {g : Nat} {lo hi st now : Int} {v : Value} {ls : List Lv} {W : World} (h : StackAt g lo hi st now v ls W) (t : Int) :
    StackAt g lo hi st t v ls (W.setCell ⟨g, 4, none⟩ (.int .i64 t)) ∧ Upd g v v W (W.setCell ⟨g, 4, none⟩ (.int .i64 t)) := by
  have hs := heap_setCell_same W g 4 _ 46 (.int .i64 t) h.blk
  exact ⟨⟨by simpa using hs, h.own.kept (grown_setCell _ _ _ _) (own_ne h.own (Nat.lt_succ_self g))⟩, (Upd.refl W).cell g 4 _ (.inl rfl) (Nat.le_refl _)⟩

set_option maxRecDepth 100000 in
set_option maxHeartbeats 4000000 in
theorem Enter_ok {g : Nat} {lo hi st now : Int} {v : Value} {ls : List Lv} {w : World} (h : StackAt g lo hi st now v ls w) (call : ByteArray) (t : Int) (hs : call.size ≤ maxLen) (hn : ls.length ≤ 1000) (hb : -1000000 ≤ topH lo st ls ∧ topH lo st ls ≤ 1000000)
    (hst : 0 ≤ st ∧ st ≤ 10000) (hok : entB now hi lo st t ls call = true) :
    Calls Try.prog 9 #[.pointer (some ⟨g, 0, none⟩), .string call, .int .i64 t] w fun e w' => ∃ v', e = .returned (.tuple #[.int .i64 (topH lo st ls), .int .i64 0]) ∧ StackAt g lo hi st t v' (ls ++ [(call, topH lo st ls, t)]) w' ∧ Upd g v v' w w' := by
  unfold entB at hok
  simp only [Bool.and_eq_true, decide_eq_true_eq, Bool.not_eq_true'] at hok
  obtain ⟨⟨⟨hnm, hix⟩, hwr⟩, htop⟩ := hok
  obtain ⟨A, c, rfl⟩ := h.shape
  have c0 := h.cell 0
  have c1 := h.cell 1
  have c2 := h.cell 2
  have c3 := h.cell 3
  have c4 := h.cell 4
  have f3 := h.frozen 3
  have f4 := h.frozen 4
  have hlt := h.lt
  obtain ⟨i0, J0, J1, J2, J3⟩ := info_parts lv_info
  have HNM := Lib.hid hnm
  have HWR := Lib.hid hwr
  have HX : Hid (idxL ls call = idxL ls call) := Lib.hid rfl
  rcases List.eq_nil_or_concat ls with hl | ⟨l', x, hl⟩
  · subst hl
    have c3 : w.cell? ⟨g, 3, none⟩ = some (.slice A 0 c) := c3
    have htop : lo ≤ hi := htop
    have hb : -1000000 ≤ lo ∧ lo ≤ 1000000 := hb
    have HT : Hid (topH lo st [] = lo) := Lib.hid rfl
    have HH := Lib.hid h
    generalize hgx : idxL [] call = ix at *
    have HIX := Lib.hid hgx
    clear hnm hwr h hgx HX hn
    go_enter Try.func9, Try.ntmps9
    go_wp2_with (first
      | (go_at_call 17; go_loud (refine (Name_any call _ hs).mono ?_; rintro e w1 ⟨he1, hb1⟩; rw [HNM.out] at he1; subst he1; obtain ⟨hc1, hf1⟩ := bcell hb1; have HS1 := Lib.hid (HH.out.below hb1); have hg1 := HS1.out.lt))
      | (go_at_call 18; go_loud (refine (index_any HS1.out call).mono ?_; rintro e w2 ⟨he2, hb2⟩; rw [HIX.out] at he2; subst he2; obtain ⟨hc2, hf2⟩ := bcell hb2; have HS2 := Lib.hid (HS1.out.below hb2); have hg2 := HS2.out.lt))
      | (go_at_call 19; go_loud (refine (wrong_any HS2.out t).mono ?_; rintro e w3 ⟨he3, rfl⟩; rw [HWR.out] at he3; subst he3; have hT2 := HS2.out.time t; have HT2 := Lib.hid hT2; clear hT2))
      | (at_builtin; go_loud (refine wpList_append_oneN (w2.setCell ⟨g, 4, none⟩ (.int .i64 t)) w2.heap.size (by simp) #[.string call, .int .i64 lo, .int .i64 t] rfl (.tmp 66) (.tmp 71) 36 rfl (g + 1) 39 i0 (.agg #[.string ByteArray.empty, .int .i64 0, .int .i64 0]) 3 32 Try.underlying36 J0 J1 J2 J3 rfl (by decide) (.slice A 0 c) 0 [] rfl HT2.out.1.own rfl rfl (by simp [Value.oneCell']) (by omega) (by decide) (by simp; omega) ?_); intro g3 cap3 w4 hv4 hg4 hat4 hlt4; go_loud (have hb4 := heap_app HT2.out.1.own (Nat.lt_succ_self g) HT2.out.1.lt HT2.out.1.blk hg4; have d3 := cell_of_row w4 g 3 _ 46 (0, 0) hb4; have e3 := frozen_of_row w4 g 3 _ 46 hb4; have HB4 := Lib.hid hb4; clear hb4)))
    go_ret2
    rw [HT.out]
    obtain ⟨p1, p2⟩ := HT2.out.1.push (call, lo, t) hv4 hg4 hat4
    exact ⟨rfl, ⟨_, p1, Upd.pre (Nat.le_of_lt HH.out.lt) (bstep hb1 hb2) (HT2.out.2.trans p2)⟩⟩
  · rw [List.concat_eq_append] at hl
    subst hl
    have hlen' : (l' ++ [x]).length = l'.length + 1 := by simp
    have c3 : w.cell? ⟨g, 3, none⟩ = some (.slice A (l'.length + 1) c) := by
      have h3 : w.cell? ⟨g, 3, none⟩ = some (.slice A (l' ++ [x]).length c) := c3
      rw [hlen'] at h3; exact h3
    have htp : topH lo st (l' ++ [x]) = x.2.1 + st := topH_snoc lo st l' x
    rw [htp] at htop hb
    have HT := Lib.hid htp
    have HH := Lib.hid h
    generalize hgx : idxL (l' ++ [x]) call = ix at *
    have HIX := Lib.hid hgx
    obtain ⟨b, off, rfl, hbl, hr⟩ := h.row (by omega)
    have hx := hr l'.length (by omega) 1 (.int .i64 x.2.1) (by show (lvV (l' ++ [x])[l'.length]!)[1]? = _; rw [getElem!_pos _ l'.length (by simp), List.getElem_append_right (Nat.le_refl _)]; simp [lvV])
    have hm0 : (0 : Int) ≤ (l'.length : Int) := by omega
    have hmw : IntKind.i64.wrap ((l'.length : Int) + 1 - 1) = (l'.length : Int) := by rw [IntWalk.i64_in _ (by omega)]; omega
    have hm1 : (l'.length : Int) < (l'.length : Int) + 1 := by omega
    have hsw : IntKind.i64.wrap (x.2.1 + st) = x.2.1 + st := IntWalk.i64_in _ (by omega)
    have hlen := Lib.hid hlen'
    have hn' : l'.length ≤ 1000 := by omega
    clear hnm hwr h hgx HX hn hr hlen' htp
    go_enter Try.func9, Try.ntmps9
    go_wp2_with fail
    go_quiet (fail)
    go_wp2_with (first
      | (go_at_call 17; go_loud (refine (Name_any call _ hs).mono ?_; rintro e w1 ⟨he1, hb1⟩; rw [HNM.out] at he1; subst he1; have hb1 : Below w.heap.size w w1 := (below_drewN (Below.refl w.heap.size w) nq).trans hb1; obtain ⟨hc1, hf1⟩ := bcell hb1; have HS1 := Lib.hid (HH.out.below hb1); have hg1 := HS1.out.lt))
      | (go_at_call 18; go_loud (refine (index_any HS1.out call).mono ?_; rintro e w2 ⟨he2, hb2⟩; rw [HIX.out] at he2; subst he2; obtain ⟨hc2, hf2⟩ := bcell hb2; have HS2 := Lib.hid (HS1.out.below hb2); have hg2 := HS2.out.lt))
      | (go_at_call 19; go_loud (refine (wrong_any HS2.out t).mono ?_; rintro e w3 ⟨he3, rfl⟩; rw [HWR.out] at he3; subst he3; have hT2 := HS2.out.time t; have HT2 := Lib.hid hT2; clear hT2))
      | (at_builtin; go_loud (refine wpList_append_oneN (w2.setCell ⟨g, 4, none⟩ (.int .i64 t)) w2.heap.size (by simp) #[.string call, .int .i64 (x.2.1 + st), .int .i64 t] rfl (.tmp 66) (.tmp 71) 36 rfl (g + 1) 39 i0 (.agg #[.string ByteArray.empty, .int .i64 0, .int .i64 0]) 3 32 Try.underlying36 J0 J1 J2 J3 rfl (by decide) (.slice (some ⟨b, off, none⟩) (l'.length + 1) c) (l'.length + 1) (lvs (l' ++ [x])) rfl (by have := HT2.out.1.own; rw [hlen.out] at this; exact this) rfl rfl (by simp [Value.oneCell']) (by omega) (by decide) (by simp; omega) ?_); intro g3 cap3 w4 hv4 hg4 hat4 hlt4; go_loud (have hb4 := heap_app (by have := HT2.out.1.own; rw [hlen.out] at this; exact this) (Nat.lt_succ_self g) HT2.out.1.lt HT2.out.1.blk hg4; have d3 := cell_of_row w4 g 3 _ 46 (0, 0) hb4; have e3 := frozen_of_row w4 g 3 _ 46 hb4; have HB4 := Lib.hid hb4; clear hb4)))
    go_ret2
    rw [HT.out]
    obtain ⟨p1, p2⟩ := HT2.out.1.push (call, x.2.1 + st, t) (g3 := g3) (cap3 := cap3) (by rw [hlen.out]; exact hv4) (by have h4 := hg4; exact h4) hat4
    rw [hlen.out] at p1 p2
    rw [List.append_assoc] at p1
    exact ⟨rfl, ⟨_, p1, Upd.pre (Nat.le_of_lt HH.out.lt) (bstep hb1 hb2) ((HT2.out.2.trans (p2.congr rfl)).congr rfl)⟩⟩
end Go.Proofs.Ytjiofgfdfljgmaa
