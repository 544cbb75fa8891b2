/- Put, and what else it leaves alone; a row that gives up its last element. -/
import Derived.Test.YtblcgmihdgnhbaaA8
namespace Go.Proofs.Ytblcgmihdgnhbaa
open Go.RowKit

set_option maxRecDepth 100000 in
set_option maxHeartbeats 2000000 in
theorem Put_fr {g : Nat} {sz cnt : Int} {vs : Nat → Value} {ls : Nat → List Int} {C : Array Value} {w : World} (h : BoxAt g sz cnt vs ls C w) (p : Nat) (x : Int) (hp : p < 8) (hc : cnt ≠ sz) (hc0 : 0 ≤ cnt) (hc1 : cnt ≤ 1000) (hl : (ls p).length ≤ 1000) :
    Calls Try.prog 8 #[.pointer (some ⟨g, 0, none⟩), .int .i64 (p : Int), .int .i64 x] w fun e w' => PutP g sz cnt vs ls p x w e w' := by
  have c1 := (h.cell 1).trans h.c1
  have c0 := (h.cell 0).trans h.c0
  have f1 := h.frozen 1
  have fp := h.frozen (2 + p)
  have hown := h.own p hp
  obtain ⟨A, c, hv⟩ := own_shape hown
  have cp := (h.cell (2 + p)).trans (h.cv p hp)
  rw [hv] at cp hown
  have hcs : (cnt == sz) = false := beq_eq_false_iff_ne.2 hc
  have hp0 : (0 : Int) ≤ (p : Int) := by omega
  have hp8 : (p : Int) < 8 := by omega
  have hg := h.lt
  obtain ⟨i0, J0, J1, J2, J3⟩ := info_parts int_info
  have hga : ∀ q o, ((w.drewN q).alloc o).heap[g]? = some (.cells C 47 (0, 0)) := fun q o => ((World.grownBy_alloc (w.drewN q) o none).block g hg (by simp)).trans h.blk
  have ca : ∀ q o, ((w.drewN q).alloc o).cell? ⟨g, 2 + p, none⟩ = some (.slice A (ls p).length c) := fun q o => (cell_of_row _ g (2 + p) C 47 (0, 0) (hga q o)).trans ((h.cv p hp).trans (by rw [hv]))
  clear hga
  have HB := Lib.hid h
  have HV := Lib.hid hv
  have HO := Lib.hid hown
  clear hc h hv hown
  go_enter Try.func8, Try.ntmps8
  go_wp2
  go_quiet (fail)
  go_wp2
  go_region_law (refine step_append_int _ x w.heap.size rfl (.tmp 31) (.tmp 33) 22 rfl (g + 1) 3 i0 Try.underlying22 J0 J1 J2 J3 (.slice A (ls p).length c) (ls p).length (ls p) rfl ((HO.out.alloc _)) (by exact heap_alloc_new w _) rfl (by omega) (by simp; omega) ?_; intro g3 cap3 w3 hown3 hg3 hat3 hlt3; have hb3 : w3.heap[g]? = some (.cells C 47 (0, 0)) := (hg3.block g (by exact Nat.lt_of_lt_of_le hg (World.grownBy_alloc w _ none).size) (fun e => by have := (HO.out.lt g e.symm).1; omega)).trans (((World.grownBy_alloc w _ none).block g hg (by simp)).trans HB.out.blk); have d1 := (cell_of_row w3 g 1 C 47 (0, 0) hb3).trans HB.out.c1; have dp := (cell_of_row w3 g (2 + p) C 47 (0, 0) hb3).trans (HB.out.cv p hp); have e1 := frozen_of_row w3 g 1 C 47 hb3; have ep := frozen_of_row w3 g (2 + p) C 47 hb3; have n1 : (1 : Nat) ≠ 2 + p := by omega)
  all_goals go_wp2
  all_goals go_ret
  all_goals unfold PutP
  all_goals (have hgr : w.grownBy w3 (vs p).ownBlock := by rw [HV.out]; exact grown_trans (grown_trans (grown_drewN ⟨rfl, rfl, rfl, Nat.le_refl _, fun _ _ _ => rfl⟩ _) (World.grownBy_alloc _ _ _)) hg3)
  all_goals (have hat : (vs p).ownBlock = some g3 ∨ g3 = w.heap.size + 1 := by rw [HV.out]; exact hat3.imp id (fun e => e.trans (by simp [World.alloc])))
  all_goals (have T := HB.out.turn p hp (w3 := w3) (l3 := ls p ++ [x]) (by simpa using hown3) hgr (fun q hq hqp => apart_app (HB.out.apart p q hp hq (fun e => hqp e.symm)) (HB.out.own q hq) hat) (cnt + 1) 0)
  all_goals exact ⟨_, _, rfl, T.1, T.2, HB.out.turn_off p hp hgr _ _ 0⟩

theorem own_shrink {w : World} {base g m c : Nat} {e : TypeId} {xs : List Value} {y : Value} (h : w.ownsRow base e 1 (.slice (some ⟨g, 0, none⟩) (m + 1) c) (m + 1) (xs ++ [y])) (hx : xs.length = m) (z : Value) :
    (w.setCell ⟨g, m, none⟩ z).ownsRow base e 1 (.slice (some ⟨g, 0, none⟩) m c) m xs := by
  obtain ⟨cur, hg, hb, hnc, hcm, hcs, ht⟩ := own_cur h
  refine ⟨by simp [hx], .inr ⟨g, c, cur.setIfInBounds m z, rfl, hb, heap_setCell_same _ _ _ _ _ _ hg, by omega, hcm, by simp [hcs], ?_⟩⟩
  rw [Nat.mul_one] at ht ⊢
  apply List.ext_getElem?
  intro p
  rw [List.getElem?_take]
  by_cases hp : p < m
  · rw [if_pos hp]
    have h1 := congrArg (fun l => l[p]?) ht
    simp only [List.getElem?_take] at h1
    rw [if_pos (by omega), List.getElem?_append_left (by omega)] at h1
    rw [← h1]
    simp only [Array.getElem?_toList]
    rw [Array.getElem?_setIfInBounds_ne (by omega)]
  · rw [if_neg hp, List.getElem?_eq_none (by omega)]
end Go.Proofs.Ytblcgmihdgnhbaa
