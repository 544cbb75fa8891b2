/- Package contact: Tune, with a call, a frequency and a time that are in order. -/
import Derived.Test.YtjlbhifkhbpddaaA2
namespace Go.Proofs.Ytjlbhifkhbpddaa
open Go.RowKit

theorem new2 (W : World) (o o' : Obj) : ((W.alloc o).alloc o').heap[W.heap.size + 1]? = some o' := by
  have := heap_alloc_new (W.alloc o) o'
  simpa using this

theorem RadioAt.alloc {g : Nat} {v : Value} {l : List Cs} {W : World} (h : RadioAt g v l W) (o : Obj) : RadioAt g v l (W.alloc o) := h.below ((Below.refl _ W).alloc (Nat.le_refl _) o)
theorem RadioAt.insBlk {g : Nat} {v : Value} {l : List Cs} {W w5 : World} (h : RadioAt g v l W) {o : Obj} (hg : (W.alloc o).grownBy w5 v.ownBlock) : w5.heap[g]? = some (.cells #[v] 41 (0, 0)) :=
  heap_app h.own (Nat.lt_succ_self g) h.lt h.blk hg
theorem new_size (W : World) (o o' : Obj) : ((W.alloc o).alloc o').heap.size = (W.alloc o).heap.size + 1 := by simp
theorem grown_undrew {a b : World} {row : Option Nat} (h : a.drew.grownBy b row) : a.grownBy b row := ⟨h.os, h.tape, h.output, h.size, h.block⟩

set_option maxRecDepth 100000 in
set_option maxHeartbeats 4000000 in
theorem Tune_full {g : Nat} {v : Value} {l : List Cs} {w : World} (h : RadioAt g v l w) (hs : SortedC l) (hn : l.length ≤ 20) (x : Cs) (hsz : x.1.size ≤ maxLen)
    (h1 : nameB x.1 = true) (h2 : validF x.2.1 = true) (h3 : wrongT x.2.2 = false) (hh : hasC l x.1 = false) :
    Calls Try.prog 7 #[.pointer (some ⟨g, 0, none⟩), .string x.1, .int .i64 x.2.1, .int .i64 x.2.2] w (TuneP g v l x w) := by
  have hF := find_any h hs (by omega) x.1
  have hle := low_le l x.1
  have HP := Lib.hid (show putC l x = l.take (lowC l x.1) ++ x :: l.drop (lowC l x.1) by unfold putC; rw [hh]; rfl)
  obtain ⟨A, c, rfl⟩ := h.shape
  have hcap := own_cap h.own
  have HH := Lib.hid h
  have c0 := h.cell
  have f0 := h.frozen
  have hlt := h.lt
  obtain ⟨cl, f, t⟩ := x
  dsimp only at *
  unfold FindP at hF
  rw [hh] at hF
  generalize hlow : lowC l cl = lo at *
  have HFd := Lib.hid hF
  have HNM := Lib.hid h1
  have HV := Lib.hid h2
  have HW := Lib.hid h3
  clear h hF h1 h2 h3 hh hs hlow
  have hl24 : ((l.length : Int) == 24) = false := by rw [beq_eq_false_iff_ne]; omega
  go_enter Try.func7, Try.ntmps7
  go_wp2_with (first
    | (go_at_call 15; go_loud (refine HFd.out.mono ?_; rintro e w1 ⟨rfl, hb1⟩; obtain ⟨hc1, hf1⟩ := bcell hb1))
    | (go_at_call 16; go_loud (refine (Name_any cl _ hsz).mono ?_; rintro e w2 ⟨he2, hb2⟩; rw [HNM.out] at he2; subst he2; have HB2 := Lib.hid (bstep hb1 hb2); clear hb2; obtain ⟨hc2, hf2⟩ := bcell HB2.out))
    | (go_at_call 6; go_loud (refine (Valid_any f _).mono ?_; rintro e w3 ⟨he3, rfl⟩; rw [HV.out] at he3; subst he3))
    | (go_at_call 17; go_loud (refine (wrong_any t _).mono ?_; rintro e w4 ⟨he4, rfl⟩; rw [HW.out] at he4; subst he4)))
  have HS2 := Lib.hid (HH.out.below HB2.out)
  have hlt2 := HS2.out.lt
  have d0 := HS2.out.cell
  have e0 := HS2.out.frozen
  clear hc1 hf1 hc2 hf2 hb1 c0 f0
  go_region_with (go_at_call 18; go_loud (refine (InsertCs_own (g + 1) l.length c lo (w2.heap.size + 1) A (css l) (csV (cl, f, t)) _ (by exact (HS2.out.own.alloc _).alloc _) (rowsV_one csV_one l) rfl (csV_one _) (by exact new2 w2 _ _) (fun e => by have := (HS2.out.own.lt _ e).2; omega) hle (by omega) (by simp; omega)).mono ?_; rintro e w5 ⟨g5, c5, rfl, ho5, hg5, ha5, hl5⟩; have hg5 := grown_undrew hg5; have hb5 := (HS2.out.alloc _).insBlk hg5; have d5 := cell_of_row w5 g 0 _ 41 (0, 0) hb5; have e5 := frozen_of_row w5 g 0 _ 41 hb5; have HO5 := Lib.hid ho5; have HG5 := Lib.hid hg5; have HA5 := Lib.hid ha5; clear hb5 ho5 hg5 ha5))
  all_goals go_wp2
  all_goals go_ret
  all_goals
    obtain ⟨p1, p2⟩ := (HS2.out.alloc _).ins lo hle (cl, f, t) _ HO5.out HG5.out (HA5.out.imp id fun e => e.trans (by exact new_size _ _ _))
    exact ⟨0, _, _, rfl, p1, (Upd.of_below (Nat.le_of_lt HH.out.lt) HB2.out).trans ((Upd.of_below (Nat.le_of_lt HS2.out.lt) ((Below.refl _ _).alloc (Nat.le_refl _) _)).trans p2), fun _ => ⟨⟨HV.out, HW.out⟩, HP.out.symm⟩, fun h => absurd rfl h⟩

/-- A contact that is there already. -/
theorem has_at {l : List Cs} {t : ByteArray} (h : hasC l t = true) : lowC l t < l.length ∧ (l[lowC l t]!).1 = t := by
  unfold hasC at h
  simp only [Bool.and_eq_true, decide_eq_true_eq] at h
  exact ⟨h.1, cmpS_eq.1 h.2⟩

set_option maxRecDepth 100000 in
set_option maxHeartbeats 4000000 in
theorem Tune_has {g : Nat} {v : Value} {l : List Cs} {w : World} (h : RadioAt g v l w) (hs : SortedC l) (hn : l.length ≤ 20) (x : Cs) (hsz : x.1.size ≤ maxLen)
    (h1 : nameB x.1 = true) (h2 : validF x.2.1 = true) (h3 : wrongT x.2.2 = false) (hh : hasC l x.1 = true) :
    Calls Try.prog 7 #[.pointer (some ⟨g, 0, none⟩), .string x.1, .int .i64 x.2.1, .int .i64 x.2.2] w (TuneP g v l x w) := by
  have hF := find_any h hs (by omega) x.1
  obtain ⟨hlo, _⟩ := has_at hh
  have HP := Lib.hid (show putC l x = l.set (lowC l x.1) x by unfold putC; rw [hh]; rfl)
  obtain ⟨A, c, rfl⟩ := h.shape
  have hcap := own_cap h.own
  unfold maxLen at hcap
  obtain ⟨b, cap, hv, hgb, hbl⟩ := h.own.form (by omega)
  have hA : A = some ⟨b, 0, none⟩ := by injection hv
  subst hA
  have HH := Lib.hid h
  have hlt := h.lt
  obtain ⟨cl, f, t⟩ := x
  dsimp only at *
  unfold FindP at hF
  rw [hh] at hF
  generalize hlow : lowC l cl = lo at *
  have hr2 := h.own.cellAt (lo * 3 + 2) (by omega)
  rw [rowsV_at csV_len l lo hlo 2 (by decide)] at hr2
  have hr3 : w.cell? ⟨b, lo * 3 + 2, none⟩ = some (.int .i64 (l[lo]).2.2) := hr2
  clear hr2
  generalize (l[lo]).2.2 = la at hr3
  have HFd := Lib.hid hF
  have HNM := Lib.hid h1
  have HV := Lib.hid h2
  have HW := Lib.hid h3
  have hlo0 : (0 : Int) ≤ (lo : Int) := by omega
  have hlon : (lo : Int) < (l.length : Int) := by omega
  have hne : b ≠ g := by omega
  clear h hF h1 h2 h3 hh hs hlow hv
  by_cases hla : t < la
  · have c0 := HH.out.cell
    go_enter Try.func7, Try.ntmps7
    go_wp2_with (first
      | (go_at_call 15; go_loud (refine HFd.out.mono ?_; rintro e w1 ⟨rfl, hb1⟩; obtain ⟨hc1, hf1⟩ := bcell hb1))
      | (go_at_call 16; go_loud (refine (Name_any cl _ hsz).mono ?_; rintro e w2 ⟨he2, hb2⟩; rw [HNM.out] at he2; subst he2; have HB2 := Lib.hid (bstep hb1 hb2); clear hb2; obtain ⟨hc2, hf2⟩ := bcell HB2.out))
      | (go_at_call 6; go_loud (refine (Valid_any f _).mono ?_; rintro e w3 ⟨he3, rfl⟩; rw [HV.out] at he3; subst he3))
      | (go_at_call 17; go_loud (refine (wrong_any t _).mono ?_; rintro e w4 ⟨he4, rfl⟩; rw [HW.out] at he4; subst he4)))
    go_ret
    exact ⟨12, _, l, rfl, HH.out.below HB2.out, Upd.of_below (Nat.le_of_lt HH.out.lt) HB2.out, fun h => by omega, fun _ => rfl⟩
  · have c0 := HH.out.cell
    go_enter Try.func7, Try.ntmps7
    go_wp2_with (first
      | (go_at_call 15; go_loud (refine HFd.out.mono ?_; rintro e w1 ⟨rfl, hb1⟩; obtain ⟨hc1, hf1⟩ := bcell hb1))
      | (go_at_call 16; go_loud (refine (Name_any cl _ hsz).mono ?_; rintro e w2 ⟨he2, hb2⟩; rw [HNM.out] at he2; subst he2; have HB2 := Lib.hid (bstep hb1 hb2); clear hb2; obtain ⟨hc2, hf2⟩ := bcell HB2.out))
      | (go_at_call 6; go_loud (refine (Valid_any f _).mono ?_; rintro e w3 ⟨he3, rfl⟩; rw [HV.out] at he3; subst he3))
      | (go_at_call 17; go_loud (refine (wrong_any t _).mono ?_; rintro e w4 ⟨he4, rfl⟩; rw [HW.out] at he4; subst he4)))
    have HS2 := Lib.hid (HH.out.below HB2.out)
    have hlt2 := HS2.out.lt
    have d0 := HS2.out.cell
    obtain ⟨W, hW⟩ : ∃ W, W = w2.alloc (.cells #[.string cl, .int .i64 f, .int .i64 t] 27) := ⟨_, rfl⟩
    rw [← hW]
    have hS3 : RadioAt g (.slice (some ⟨b, 0, none⟩) l.length c) l W := by rw [hW]; exact HS2.out.alloc _
    have e0 := hS3.cell
    have t0 : W.heap[w2.heap.size]? = some (.cells #[.string cl, .int .i64 f, .int .i64 t] 27 (0, 0)) := by rw [hW]; exact heap_alloc_new w2 _
    have t1 := cell_of_row W w2.heap.size 0 _ 27 (0, 0) t0
    have t2 := cell_of_row W w2.heap.size 1 _ 27 (0, 0) t0
    have t3 := cell_of_row W w2.heap.size 2 _ 27 (0, 0) t0
    have s0 := own_some hS3.own (lo * 3) (by omega)
    have s1 := own_some hS3.own (lo * 3 + 1) (by omega)
    have s2 := own_some hS3.own (lo * 3 + 2) (by omega)
    obtain ⟨z0, s0⟩ : (∃ z, W.cell? ⟨b, lo * 3, none⟩ = some z) ∧ W.frozen? ⟨b, lo * 3, none⟩ = false := ⟨Option.isSome_iff_exists.1 s0.1, s0.2⟩
    obtain ⟨z1, s1⟩ : (∃ z, W.cell? ⟨b, lo * 3 + 1, none⟩ = some z) ∧ W.frozen? ⟨b, lo * 3 + 1, none⟩ = false := ⟨Option.isSome_iff_exists.1 s1.1, s1.2⟩
    obtain ⟨z2, s2⟩ : (∃ z, W.cell? ⟨b, lo * 3 + 2, none⟩ = some z) ∧ W.frozen? ⟨b, lo * 3 + 2, none⟩ = false := ⟨Option.isSome_iff_exists.1 s2.1, s2.2⟩
    obtain ⟨z0, zz0⟩ := z0
    obtain ⟨z1, zz1⟩ := z1
    obtain ⟨z2, zz2⟩ := z2
    have HS3 := Lib.hid hS3
    clear hS3
    have HBW := Lib.hid (show Below w.heap.size w W by rw [hW]; exact HB2.out.alloc HB2.out.size _)
    clear hW hc1 hf1 hc2 hf2 hb1 d0 t0 c0 hr3
    go_still_tail 7, (by kernel_rfl)
    change wpList _ _ _ _ _ W.drew
    go_wp2
    go_ret
    obtain ⟨p1, p2⟩ := HS3.out.put lo hlo (cl, f, t)
    refine ⟨0, .slice (some ⟨b, 0, none⟩) l.length c, l.set lo (cl, f, t), rfl, ?_, ?_, fun _ => ⟨⟨HV.out, HW.out⟩, HP.out.symm⟩, fun h => absurd rfl h⟩
    · exact ⟨p1.blk, p1.own⟩
    · exact ((Upd.of_below (Nat.le_of_lt HH.out.lt) HBW.out).trans p2).drewN 1

theorem Tune_any {g : Nat} {v : Value} {l : List Cs} {w : World} (h : RadioAt g v l w) (hs : SortedC l) (hn : l.length ≤ 20) (x : Cs) (hsz : x.1.size ≤ maxLen) :
    Calls Try.prog 7 #[.pointer (some ⟨g, 0, none⟩), .string x.1, .int .i64 x.2.1, .int .i64 x.2.2] w (TuneP g v l x w) := by
  by_cases hbad : nameB x.1 = false ∨ validF x.2.1 = false ∨ wrongT x.2.2 = true
  · exact Tune_no h hs hn x hsz hbad
  · simp only [not_or, Bool.not_eq_false, Bool.not_eq_true] at hbad
    cases hh : hasC l x.1 with
    | true => exact Tune_has h hs hn x hsz hbad.1 hbad.2.1 hbad.2.2 hh
    | false => exact Tune_full h hs hn x hsz hbad.1 hbad.2.1 hbad.2.2 hh
end Go.Proofs.Ytjlbhifkhbpddaa
