/- Package mailbox: Put where there is room. -/
import Derived.Test.YtblcgmihdgnhbaaA1
namespace Go.Proofs.Ytblcgmihdgnhbaa
open Go.RowKit

def upd {α : Type} (f : Nat → α) (p : Nat) (x : α) : Nat → α := fun i => if i = p then x else f i
theorem upd_at {α : Type} (f : Nat → α) (p : Nat) (x : α) : upd f p x p = x := by simp [upd]
theorem upd_ne {α : Type} (f : Nat → α) {p i : Nat} (x : α) (h : i ≠ p) : upd f p x i = f i := by simp [upd, h]

theorem grown_setCell (w : World) (g i : Nat) (v : Value) : w.grownBy (w.setCell ⟨g, i, none⟩ v) (some g) := by
  have h := (Below.refl g w).setCell (p := ⟨g, i, none⟩) (Nat.le_refl _) v
  exact ⟨h.os, h.tape, h.output, h.size, fun k _ hk => heap_setCell_other _ _ _ _ (fun e => hk (by rw [e]))⟩

/-- List p gives way to another one, and the count to another count. -/
theorem BoxAt.turn {g : Nat} {sz cnt : Int} {vs : Nat → Value} {ls : Nat → List Int} {C : Array Value} {w : World} (h : BoxAt g sz cnt vs ls C w) (p : Nat) (hp : p < 8) {w3 : World} {v3 : Value} {l3 : List Int}
    (hown3 : w3.ownsRow (g + 1) 3 1 v3 l3.length (intsV l3)) (hg3 : w.grownBy w3 (vs p).ownBlock) (hap : ∀ q, q < 8 → q ≠ p → ApartV v3 (vs q)) (cnt' : Int) (m : Nat) :
    BoxAt g sz cnt' (upd vs p v3) (upd ls p l3) ((C.setIfInBounds (2 + p) v3).setIfInBounds 1 (.int .i64 cnt')) (((w3.setCell ⟨g, 2 + p, none⟩ v3).drewN m).setCell ⟨g, 1, none⟩ (.int .i64 cnt')) ∧ Below g w (((w3.setCell ⟨g, 2 + p, none⟩ v3).drewN m).setCell ⟨g, 1, none⟩ (.int .i64 cnt')) := by
  have hne : ∀ q, q < 8 → (vs q).ownBlock ≠ some g := fun q hq e => by have := ((h.own q hq).lt g e).1; omega
  have hb3 : w3.heap[g]? = some (.cells C 47 (0, 0)) := (hg3.block g h.lt (fun e => hne p hp e.symm)).trans h.blk
  have G : w3.grownBy (((w3.setCell ⟨g, 2 + p, none⟩ v3).drewN m).setCell ⟨g, 1, none⟩ (.int .i64 cnt')) (some g) := grown_trans (grown_drewN (grown_setCell _ _ _ _) m) (grown_setCell _ _ _ _)
  have hb4 : ((w3.setCell ⟨g, 2 + p, none⟩ v3).drewN m).heap[g]? = some (.cells (C.setIfInBounds (2 + p) v3) 47 (0, 0)) := heap_setCell_same _ _ _ _ _ _ hb3
  have hs := h.size
  refine ⟨⟨heap_setCell_same _ _ _ _ _ _ hb4, ?_, ?_, ?_, fun q hq => ?_, fun q hq => ?_, fun a b ha hb hab => ?_⟩, ?_⟩
  · simp [hs]
  · have := h.c0
    rw [Array.getElem?_setIfInBounds_ne (by omega), Array.getElem?_setIfInBounds_ne (by omega)]; exact this
  · rw [Array.getElem?_setIfInBounds_self_of_lt (by simp [hs])]
  · rw [Array.getElem?_setIfInBounds_ne (by omega)]
    by_cases e : q = p
    · subst e
      rw [Array.getElem?_setIfInBounds_self_of_lt (by omega), upd_at]
    · rw [Array.getElem?_setIfInBounds_ne (by omega), upd_ne _ _ e]; exact h.cv q hq
  · by_cases e : q = p
    · subst e
      rw [upd_at, upd_at]
      exact hown3.kept G (.inr fun e => by have := (hown3.lt g e).1; omega)
    · rw [upd_ne _ _ e, upd_ne _ _ e]
      exact (own_apart (h.own q hq) hg3 rfl (h.apart p q hp hq (fun x => e x.symm))).kept G (.inr (hne q hq))
  · by_cases ea : a = p
    · subst ea
      rw [upd_at, upd_ne _ _ (fun x => hab x.symm)]
      exact hap b hb (fun x => hab x.symm)
    · by_cases eb : b = p
      · subst eb
        rw [upd_at, upd_ne _ _ ea]
        exact (hap a ha ea).symm
      · rw [upd_ne _ _ ea, upd_ne _ _ eb]
        exact h.apart a b ha hb hab
  · exact ((Below.refl g w).grown hg3 (Nat.le_of_lt h.lt) (fun k e => by have := ((h.own p hp).lt k e).1; omega)).grown G (Nat.le_trans (Nat.le_of_lt h.lt) hg3.size) (fun k e => by cases e; exact Nat.le_refl _)

set_option maxRecDepth 100000 in
set_option maxHeartbeats 2000000 in
theorem Put_ok {g : Nat} {sz cnt : Int} {vs : Nat → Value} {ls : Nat → List Int} {C : Array Value} {w : World} (h : BoxAt g sz cnt vs ls C w) (p : Nat) (x : Int) (hp : p < 8) (hc : cnt ≠ sz) (hc0 : 0 ≤ cnt) (hc1 : cnt ≤ 1000) (hl : (ls p).length ≤ 1000) :
    Calls Try.prog 8 #[.pointer (some ⟨g, 0, none⟩), .int .i64 (p : Int), .int .i64 x] w fun e w' => ∃ vs' C', e = .returned (.int .i64 0) ∧ BoxAt g sz (cnt + 1) vs' (upd ls p (ls p ++ [x])) C' w' ∧ Below g w w' := by
  have c1 := (h.cell 1).trans h.c1
  have c0 := (h.cell 0).trans h.c0
  have f1 := h.frozen 1
  have fp := h.frozen (2 + p)
  have hown := h.own p hp
  obtain ⟨A, c, hv⟩ := own_shape hown
  have cp := (h.cell (2 + p)).trans (h.cv p hp)
  rw [hv] at cp hown
  have hcs : (cnt == sz) = false := beq_eq_false_iff_ne.2 hc
  have hp0 : (0 : Int) ≤ (p : Int) := by omega
  have hp8 : (p : Int) < 8 := by omega
  have hg := h.lt
  obtain ⟨i0, J0, J1, J2, J3⟩ := info_parts int_info
  have hga : ∀ q o, ((w.drewN q).alloc o).heap[g]? = some (.cells C 47 (0, 0)) := fun q o => ((World.grownBy_alloc (w.drewN q) o none).block g hg (by simp)).trans h.blk
  have ca : ∀ q o, ((w.drewN q).alloc o).cell? ⟨g, 2 + p, none⟩ = some (.slice A (ls p).length c) := fun q o => (cell_of_row _ g (2 + p) C 47 (0, 0) (hga q o)).trans ((h.cv p hp).trans (by rw [hv]))
  clear hga
  have HB := Lib.hid h
  have HV := Lib.hid hv
  have HO := Lib.hid hown
  clear hc h hv hown
  go_enter Try.func8, Try.ntmps8
  go_wp2
  go_quiet (fail)
  go_wp2
  go_region_law (refine step_append_int _ x w.heap.size rfl (.tmp 31) (.tmp 33) 22 rfl (g + 1) 3 i0 Try.underlying22 J0 J1 J2 J3 (.slice A (ls p).length c) (ls p).length (ls p) rfl ((HO.out.alloc _)) (by exact heap_alloc_new w _) rfl (by omega) (by simp; omega) ?_; intro g3 cap3 w3 hown3 hg3 hat3 hlt3; have hb3 : w3.heap[g]? = some (.cells C 47 (0, 0)) := (hg3.block g (by exact Nat.lt_of_lt_of_le hg (World.grownBy_alloc w _ none).size) (fun e => by have := (HO.out.lt g e.symm).1; omega)).trans (((World.grownBy_alloc w _ none).block g hg (by simp)).trans HB.out.blk); have d1 := (cell_of_row w3 g 1 C 47 (0, 0) hb3).trans HB.out.c1; have dp := (cell_of_row w3 g (2 + p) C 47 (0, 0) hb3).trans (HB.out.cv p hp); have e1 := frozen_of_row w3 g 1 C 47 hb3; have ep := frozen_of_row w3 g (2 + p) C 47 hb3; have n1 : (1 : Nat) ≠ 2 + p := by omega)
  all_goals (go_wp2; go_ret; refine ⟨_, _, rfl, HB.out.turn p hp (l3 := ls p ++ [x]) (by simpa using hown3) ?_ (fun q hq hqp => apart_app (HB.out.apart p q hp hq (fun e => hqp e.symm)) (HB.out.own q hq) ?_) (cnt + 1) 0⟩)
  all_goals first
    | (rw [HV.out]; exact grown_trans (grown_trans (grown_drewN ⟨rfl, rfl, rfl, Nat.le_refl _, fun _ _ _ => rfl⟩ _) (World.grownBy_alloc _ _ _)) hg3)
    | (rw [HV.out]; exact hat3.imp id (fun e => e.trans (by simp [World.alloc])))
end Go.Proofs.Ytblcgmihdgnhbaa
