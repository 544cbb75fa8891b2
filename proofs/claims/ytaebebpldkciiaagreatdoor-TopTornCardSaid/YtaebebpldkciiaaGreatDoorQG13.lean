/- Contracts and plain words, part 13: texts U1, U2, LR. -/
import Derived.Test.YtaebebpldkciiaaGreatDoorQG08
import Derived.Test.YtaebebpldkciiaaGreatDoorQG11
import Derived.RangeFuncNested
import Derived.RangeFuncBound
import Derived.RangeFuncCalls
import Derived.RangeFuncLeaves
import Derived.Shelf.Abstract
import Derived.Shelf.RegionOpen
import Derived.WalkKit
import Derived.OwnWalkIn
import Derived.TacticsInMore
import Derived.LoopNIn
import Derived.LoopIn
import Derived.Test.YtaebebpldkciiaaGreatDoorQG09
import Derived.OrdersIn
import Derived.Lib.QuietBelow
import Derived.Test.YtaebebpldkciiaaGreatDoorQG01
import Derived.Test.YtaebebpldkciiaaGreatDoorQG12
namespace Go.Proofs.YtaebebpldkciiaaGreatDoor
section
open Go.RowKit
theorem legP_none {legs : List Tu} {t : Int} (h : ∀ j, j < legs.length → t < fstT legs[j]!) : legP legs t = [] := by
 unfold legP
 have : legs.reverse.find? (fun l => decide (fstT l ≤ t)) = none := by
  rw [List.find?_eq_none]
  intro l hl
  obtain ⟨j, hj, rfl⟩ := List.getElem_of_mem (List.mem_reverse.1 hl)
  have := h j hj
  rw [getElem!_pos legs j hj] at this
  simp; omega
 rw [this]
theorem legP_at {legs : List Tu} {t : Int} {m : Nat} (hm : m < legs.length) (h1 : fstT legs[m]! ≤ t) (h2 : ∀ j, m < j → j < legs.length → t < fstT legs[j]!) : legP legs t = nodeAt legs[m]! t := by
 unfold legP
 have e : legs = legs.take m ++ legs[m]! :: legs.drop (m + 1) := by
  rw [getElem!_pos legs m hm, ← List.drop_eq_getElem_cons hm, List.take_append_drop]
 have : legs.reverse.find? (fun l => decide (fstT l ≤ t)) = some legs[m]! := by
  rw [congrArg List.reverse e, List.reverse_append, List.reverse_cons, List.append_assoc, List.find?_append]
  have h3 : (legs.drop (m + 1)).reverse.find? (fun l => decide (fstT l ≤ t)) = none := by
   rw [List.find?_eq_none]
   intro l hl
   obtain ⟨j, hj, rfl⟩ := List.getElem_of_mem (List.mem_reverse.1 hl)
   rw [List.length_drop] at hj
   have := h2 (m + 1 + j) (by omega) (by omega)
   rw [getElem!_pos legs (m + 1 + j) (by omega)] at this
   rw [List.getElem_drop]
   simp; omega
  rw [h3, Option.none_or, List.singleton_append, List.find?_cons_of_pos (by simpa using h1)]
 rw [this]
def NdsP (ns : List Nd) (w : World) (e : Ending) (w' : World) : Prop := ∃ (A : Option Addr) (c : Nat), e = .returned (.slice A ns.length c) ∧ w'.ownsRow w.heap.size 52 6 (.slice A ns.length c) ns.length (rowsV ndV ns) ∧ Below w.heap.size w w'
set_option maxRecDepth 100000 in
set_option maxHeartbeats 8000000 in
theorem places_any (x : Fm) (f : Fl) (t : Int) (w : World) (hL : TusA x.la x.ln f.legs w) (hN : TuA x.na x.nn f.next w) (hok : ∀ i, i < f.legs.length → TuOk f.legs[i]!) (hn6 : f.legs.length ≤ 6) (hnn : x.nn ≤ maxLen) :
  Calls Tryz.prog 51 #[fmA x, .int .i64 t] w (NdsP (placesP f t) w) := by
 obtain ⟨call, wake, slot, lands, la, ln, lc, na, nn, nc, land, nland⟩ := x
 obtain ⟨fcall, fwake, fslot, flands, legs, next, fland, fnland⟩ := f
 dsimp only at hL hN hok hn6 hnn
 unfold fmA placesP
 dsimp only
 obtain ⟨i47, E0, E1, E2, E3⟩ := info_parts CloneTu_info
 have HF := Lib.hid (fun (W : World) (A : Option Addr) (n c j : Nat) (hj : j < legs.length) (hA : TuA A n legs[j]! W) => first_any A n c legs[j]! W hA (by rw [← hA.1]; exact (hok j hj).n0))
 have HA := Lib.hid (fun (W : World) (A : Option Addr) (n c j : Nat) (hj : j < legs.length) (hA : TuA A n legs[j]! W) => At_any A n c legs[j]! t W hA (by have := (hok j hj).n1; rw [hA.1] at this; unfold maxLen; omega))
 have HX0 := fun (W : World) (hb : Below w.heap.size w W) => At_any na nn nc next t W (hN.below hb) hnn
 unfold AtP at HA HX0
 have HX := Lib.hid (fun (W : World) (hb : Below w.heap.size w W) => (HX0 W hb).mono fun e W2 h => (show e = .returned (.tuple #[ndA (tubeAt next t).1, .int .i64 (tubeAt next t).2]) ∧ Below w.heap.size w W2 ∧ Below W.heap.size W W2 from ⟨h.1, bstep hb h.2, h.2⟩))
 clear HX0
 have HL := Lib.hid (fun (W : World) (hb : Below w.heap.size w W) => hL.below hb)
 have hln := hL.1
 have HLn := Lib.hid hln
 have h0n : (0 : Int) ≤ (ln : Int) := by omega
 have hl6 : ln ≤ 6 := by omega
 have hw1 : IntKind.i64.wrap ((ln : Int) - 1) = (ln : Int) - 1 := IntWalk.i64_in _ (by omega)
 have HNE : Hid (nodeAt next t = if (tubeAt next t).2 = 0 then [(tubeAt next t).1] else []) := Lib.hid rfl
 obtain ⟨xq, hxq⟩ : ∃ xq, (tubeAt next t).1 = xq := ⟨_, rfl⟩
 obtain ⟨xe, hxe⟩ : ∃ xe, (tubeAt next t).2 = xe := ⟨_, rfl⟩
 rw [hxq, hxe] at HX HNE
 generalize nodeAt next t = nx at *
 have HB1 : Hid (Below w.heap.size w (w.alloc (.cells #[.string call, .int .i64 wake, .int .i64 slot, .bool lands, .slice la ln lc, .slice na nn nc, .int .i64 land, .int .i64 nland] 46))) := Lib.hid ((Below.refl _ _).alloc (Nat.le_refl _) _)
 have tok : True := trivial
 have tok2 : True := trivial
 clear hL hN hok hxq hxe hln
 go_enter Tryz.func51, Tryz.ntmps51
 go_wp2_with fail
 obtain ⟨w0, hw0⟩ : ∃ w0, w.alloc (.cells #[.string call, .int .i64 wake, .int .i64 slot, .bool lands, .slice la ln lc, .slice na nn nc, .int .i64 land, .int .i64 nland] 46) = w0 := ⟨_, rfl⟩
 have HK : Hid (w0.heap[w.heap.size]? = some (.cells #[.string call, .int .i64 wake, .int .i64 slot, .bool lands, .slice la ln lc, .slice na nn nc, .int .i64 land, .int .i64 nland] 46 (0, 0))) := Lib.hid (by rw [← hw0]; exact heap_alloc_new _ _)
 have hz0 : w.heap.size < w0.heap.size := by rw [← hw0, size_al]; omega
 rw [hw0] at HB1 ⊢
 clear hw0
 go_loopw [5, 6] (fun v i wr => v = .slice none 0 0 ∧ ∃ k : Nat, k ≤ ln ∧ i = .int .i64 ((k : Int) - 1) ∧ Hid (∀ j, k ≤ j → j < ln → t < fstT legs[j]!) ∧ Hid (Below w0.heap.size w0 wr)) (fun _ i _ => (intOf i + 1).toNat)
 case atStart => exact ⟨rfl, ln, Nat.le_refl _, rfl, Lib.hid (fun j h1 h2 => absurd h2 (by omega)), Lib.hid (Below.refl _ _)⟩
 case round =>
  obtain ⟨rfl, k, hk, rfl, HG, HB⟩ := hrel
  have hzr := HB.out.size
  have hkb := (HB.out.block w.heap.size hz0).trans HK.out
  have c4 : wr.cell? ⟨w.heap.size, 4, none⟩ = some (.slice la ln lc) := cell_of_row _ _ 4 _ _ _ hkb
  have c5 : wr.cell? ⟨w.heap.size, 5, none⟩ = some (.slice na nn nc) := cell_of_row _ _ 5 _ _ _ hkb
  have HBw := Lib.hid (bstep HB1.out HB.out)
  have HKB := Lib.hid hkb
  clear hkb
  cases k with
  | zero =>
   have HLP : Hid (legP legs t = []) := Lib.hid (legP_none (fun j hj => HG.out j (by omega) (by have := HLn.out; omega)))
   rw [show (((0 : Nat) : Int) - 1) = -1 by omega]
   by_cases hx0 : xe = 0
   ·subst hx0
    rw [if_pos rfl] at HNE
    go_wp2_with (first
     | (go_at_call 15; go_loud (refine (HX.out _ (by exact HBw.out)).mono ?_; rintro e w6 ⟨rfl, hb6, hb6'⟩; have HB6 := Lib.hid hb6; have HO6 := Lib.hid (World.ownsRow_nil w6 w.heap.size 52 6); have hz6 := HB6.out.size; clear hb6 hb6'; unfold ndA))
     | (at_builtin; go_loud (refine wpList_append_oneN _ (w6.heap.size + 1) (by rw [size_al]) #[.int .i64 xq.t, .int .i64 xq.x, .int .i64 xq.y, .int .i64 xq.h, .int .i64 xq.r, .int .i64 xq.b] rfl (.tmp 52) (.tmp 54) 43 rfl w.heap.size 52 i47 (.agg #[.int .i64 0, .int .i64 0, .int .i64 0, .int .i64 0, .int .i64 0, .int .i64 0]) 6 48 Tryz.underlying43 E0 E1 E2 E3 rfl (by decide) (.slice none 0 0) 0 _ rfl (HO6.out.alloc _) rfl rfl (by simp [Value.oneCell']) (by omega) (by decide) (by rw [size_al]; omega) ?_; intro g7 cap7 w7 hv7 hg7 hat7 hlt7)))
    go_ret
    refine ⟨some ⟨g7, 0, none⟩, cap7, by rw [HLP.out, HNE.out]; rfl, ?_, below_app (HB6.out.alloc HB6.out.size _) (by rw [size_al]; omega) (HO6.out.alloc _) (Nat.le_refl _) hg7⟩
    rw [HLP.out, HNE.out]
    exact hv7
   ·rw [if_neg hx0] at HNE
    have x1 : (xe == 0) = false := by rw [beq_eq_false_iff_ne]; exact hx0
    clear hx0
    go_wp2_with (first
     | (go_at_call 15; go_loud (refine (HX.out _ (by exact HBw.out)).mono ?_; rintro e w6 ⟨rfl, hb6, hb6'⟩; have HB6 := Lib.hid hb6; have HO6 := Lib.hid (World.ownsRow_nil w6 w.heap.size 52 6); have hz6 := HB6.out.size; clear hb6 hb6'; unfold ndA)))
    go_ret
    refine ⟨none, 0, by rw [HLP.out, HNE.out]; rfl, ?_, HB6.out.alloc HB6.out.size _⟩
    rw [HLP.out, HNE.out]
    exact HO6.out.alloc _
  | succ m =>
   have hmi : (((m + 1 : Nat) : Int) - 1) = (m : Int) := by omega
   rw [hmi]
   have m0 : (0 : Int) ≤ (m : Int) := by omega
   have m1 : (m : Int) < (ln : Int) := by omega
   have hmw : IntKind.i64.wrap ((m : Int) - 1) = (m : Int) - 1 := IntWalk.i64_in _ (by omega)
   have hml : m < legs.length := by have := HLn.out; omega
   obtain ⟨b, off, hla, hb, hcs⟩ := (HL.out _ HBw.out).2 (by omega)
   subst hla
   obtain ⟨LB, lm, ld, hcm, hTm⟩ := hcs m (by omega)
   have HFm := Lib.hid (HF.out wr LB lm ld m hml hTm)
   have HTm := Lib.hid hTm
   obtain ⟨fm, hfm⟩ : ∃ fm, fstT legs[m]! = fm := ⟨_, rfl⟩
   rw [hfm] at HFm
   have HFE := Lib.hid hfm
   clear hcs hTm hfm
   by_cases hle : fm ≤ t
   ·have e1 : decide (fm ≤ t) = true := decide_eq_true hle
    have e2 : decide (t < fm) = false := decide_eq_false (by omega)
    have HLP : Hid (legP legs t = if (tubeAt legs[m]! t).2 = 0 then [(tubeAt legs[m]! t).1] else []) := Lib.hid (legP_at hml (by rw [HFE.out]; exact hle) (fun j h1 h2 => HG.out j (by omega) (by have := HLn.out; omega)))
    have HAm := Lib.hid (HA.out wr LB lm ld m hml HTm.out)
    obtain ⟨yq, hyq⟩ : ∃ yq, (tubeAt legs[m]! t).1 = yq := ⟨_, rfl⟩
    obtain ⟨ye, hye⟩ : ∃ ye, (tubeAt legs[m]! t).2 = ye := ⟨_, rfl⟩
    rw [hyq, hye] at HAm HLP
    clear hyq hye hle
    by_cases hy0 : ye = 0
    ·subst hy0
     rw [if_pos rfl] at HLP
     by_cases hx0 : xe = 0
     ·subst hx0
      rw [if_pos rfl] at HNE
      go_wp2_with (first
       | (go_at_call 82; go_loud (refine HFm.out.mono ?_; rintro e w1 ⟨rfl, hww⟩; subst w1))
       | (go_at_call 15; go_loud (have _t := tok; refine HAm.out.mono ?_; rintro e w2 ⟨rfl, hb2⟩; have HB2 := Lib.hid (bstep HBw.out hb2); have k2 := (hb2.block w.heap.size (by omega)).trans HKB.out; have d5 : w2.cell? ⟨w.heap.size, 5, none⟩ = some (.slice na nn nc) := cell_of_row _ _ 5 _ _ _ k2; have HK2 := Lib.hid k2; have hz2 : wr.heap.size ≤ w2.heap.size := hb2.size; clear k2 hb2 tok; unfold ndA))
       | (at_builtin; go_loud (have _t := tok2; refine wpList_append_oneN _ (w2.heap.size + 1) (by rw [size_al]) #[.int .i64 yq.t, .int .i64 yq.x, .int .i64 yq.y, .int .i64 yq.h, .int .i64 yq.r, .int .i64 yq.b] rfl (.tmp 39) (.tmp 41) 43 rfl w.heap.size 52 i47 (.agg #[.int .i64 0, .int .i64 0, .int .i64 0, .int .i64 0, .int .i64 0, .int .i64 0]) 6 48 Tryz.underlying43 E0 E1 E2 E3 rfl (by decide) (.slice none 0 0) 0 [] rfl (World.ownsRow_nil _ _ _ _) rfl rfl (by simp [Value.oneCell']) (by omega) (by decide) (by rw [size_al]; omega) ?_; intro g5 cap5 w5 hv5 hg5 hat5 hlt5; have HO5 := Lib.hid hv5; have HB5 : Hid (Below w.heap.size w w5) := Lib.hid (below_app (HB2.out.alloc HB2.out.size _) (by rw [size_al]; omega) (World.ownsRow_nil _ w.heap.size 52 6) (Nat.le_refl _) hg5); have k5 : w5.heap[w.heap.size]? = some (.cells #[.string call, .int .i64 wake, .int .i64 slot, .bool lands, .slice (some ⟨b, off, none⟩) ln lc, .slice na nn nc, .int .i64 land, .int .i64 nland] 46 (0, 0)) := (hg5.block w.heap.size (by rw [size_al, size_al]; omega) (by simp [Value.ownBlock])).trans ((World.grownBy_alloc _ _ none).block _ (by rw [size_al]; omega) (by simp) |>.trans (((World.grownBy_alloc _ _ none).block _ (by omega) (by simp)).trans HK2.out)); have f5 : w5.cell? ⟨w.heap.size, 5, none⟩ = some (.slice na nn nc) := cell_of_row _ _ 5 _ _ _ k5; clear k5 hv5 hg5 hat5 tok2))
       | (go_at_call 15; go_loud (refine (HX.out _ (by exact HB5.out)).mono ?_; rintro e w6 ⟨rfl, hb6, hb6'⟩; have HB6 := Lib.hid hb6; have HO6 := Lib.hid (own_below HO5.out hb6' (Nat.le_refl _)); have hz6 := HB6.out.size; clear hb6 hb6'; unfold ndA))
       | (at_builtin; go_loud (refine wpList_append_oneN _ (w6.heap.size + 1) (by rw [size_al]) #[.int .i64 xq.t, .int .i64 xq.x, .int .i64 xq.y, .int .i64 xq.h, .int .i64 xq.r, .int .i64 xq.b] rfl (.tmp 52) (.tmp 54) 43 rfl w.heap.size 52 i47 (.agg #[.int .i64 0, .int .i64 0, .int .i64 0, .int .i64 0, .int .i64 0, .int .i64 0]) 6 48 Tryz.underlying43 E0 E1 E2 E3 rfl (by decide) (.slice (some ⟨g5, 0, none⟩) 1 cap5) 1 _ rfl (HO6.out.alloc _) rfl rfl (by simp [Value.oneCell']) (by omega) (by decide) (by rw [size_al]; omega) ?_; intro g7 cap7 w7 hv7 hg7 hat7 hlt7)))
      go_ret
      refine ⟨some ⟨g7, 0, none⟩, cap7, by rw [HLP.out, HNE.out]; rfl, ?_, below_app (HB6.out.alloc HB6.out.size _) (by rw [size_al]; omega) (HO6.out.alloc _) (Nat.le_refl _) hg7⟩
      rw [HLP.out, HNE.out]
      exact hv7
     ·rw [if_neg hx0] at HNE
      have x1 : (xe == 0) = false := by rw [beq_eq_false_iff_ne]; exact hx0
      clear hx0
      go_wp2_with (first
       | (go_at_call 82; go_loud (refine HFm.out.mono ?_; rintro e w1 ⟨rfl, hww⟩; subst w1))
       | (go_at_call 15; go_loud (have _t := tok; refine HAm.out.mono ?_; rintro e w2 ⟨rfl, hb2⟩; have HB2 := Lib.hid (bstep HBw.out hb2); have k2 := (hb2.block w.heap.size (by omega)).trans HKB.out; have d5 : w2.cell? ⟨w.heap.size, 5, none⟩ = some (.slice na nn nc) := cell_of_row _ _ 5 _ _ _ k2; have HK2 := Lib.hid k2; have hz2 : wr.heap.size ≤ w2.heap.size := hb2.size; clear k2 hb2 tok; unfold ndA))
       | (at_builtin; go_loud (have _t := tok2; refine wpList_append_oneN _ (w2.heap.size + 1) (by rw [size_al]) #[.int .i64 yq.t, .int .i64 yq.x, .int .i64 yq.y, .int .i64 yq.h, .int .i64 yq.r, .int .i64 yq.b] rfl (.tmp 39) (.tmp 41) 43 rfl w.heap.size 52 i47 (.agg #[.int .i64 0, .int .i64 0, .int .i64 0, .int .i64 0, .int .i64 0, .int .i64 0]) 6 48 Tryz.underlying43 E0 E1 E2 E3 rfl (by decide) (.slice none 0 0) 0 [] rfl (World.ownsRow_nil _ _ _ _) rfl rfl (by simp [Value.oneCell']) (by omega) (by decide) (by rw [size_al]; omega) ?_; intro g5 cap5 w5 hv5 hg5 hat5 hlt5; have HO5 := Lib.hid hv5; have HB5 : Hid (Below w.heap.size w w5) := Lib.hid (below_app (HB2.out.alloc HB2.out.size _) (by rw [size_al]; omega) (World.ownsRow_nil _ w.heap.size 52 6) (Nat.le_refl _) hg5); have k5 : w5.heap[w.heap.size]? = some (.cells #[.string call, .int .i64 wake, .int .i64 slot, .bool lands, .slice (some ⟨b, off, none⟩) ln lc, .slice na nn nc, .int .i64 land, .int .i64 nland] 46 (0, 0)) := (hg5.block w.heap.size (by rw [size_al, size_al]; omega) (by simp [Value.ownBlock])).trans ((World.grownBy_alloc _ _ none).block _ (by rw [size_al]; omega) (by simp) |>.trans (((World.grownBy_alloc _ _ none).block _ (by omega) (by simp)).trans HK2.out)); have f5 : w5.cell? ⟨w.heap.size, 5, none⟩ = some (.slice na nn nc) := cell_of_row _ _ 5 _ _ _ k5; clear k5 hv5 hg5 hat5 tok2))
       | (go_at_call 15; go_loud (refine (HX.out _ (by exact HB5.out)).mono ?_; rintro e w6 ⟨rfl, hb6, hb6'⟩; have HB6 := Lib.hid hb6; have HO6 := Lib.hid (own_below HO5.out hb6' (Nat.le_refl _)); have hz6 := HB6.out.size; clear hb6 hb6'; unfold ndA)))
      go_ret
      refine ⟨some ⟨g5, 0, none⟩, cap5, by rw [HLP.out, HNE.out]; rfl, ?_, HB6.out.alloc HB6.out.size _⟩
      rw [HLP.out, HNE.out]
      exact HO6.out.alloc _
    ·rw [if_neg hy0] at HLP
     have y1 : (ye == 0) = false := by rw [beq_eq_false_iff_ne]; exact hy0
     clear hy0
     go_wp2_with (go_at_call 82; go_loud (refine HFm.out.mono ?_; rintro e w1 ⟨rfl, hww⟩; subst w1))
     refine HAm.out.mono ?_
     rintro e w2 ⟨rfl, hb2⟩
     have HB2 := Lib.hid (bstep HBw.out hb2)
     have k2 := (hb2.block w.heap.size (by omega)).trans HKB.out
     have d5 : w2.cell? ⟨w.heap.size, 5, none⟩ = some (.slice na nn nc) := cell_of_row _ _ 5 _ _ _ k2
     have hz2 : wr.heap.size ≤ w2.heap.size := hb2.size
     have hl2 : w.heap.size < w2.heap.size := by omega
     clear k2 hb2 tok
     unfold ndA
     go_wp2_with fail
     by_cases hx0 : xe = 0
     ·subst hx0
      rw [if_pos rfl] at HNE
      go_wp2_with (first
       | (go_at_call 15; go_loud (refine (HX.out _ (by exact (HB2.out.alloc HB2.out.size _))).mono ?_; rintro e w6 ⟨rfl, hb6, hb6'⟩; have HB6 := Lib.hid hb6; have HO6 := Lib.hid (World.ownsRow_nil w6 w.heap.size 52 6); have hz6 := HB6.out.size; clear hb6 hb6'; unfold ndA))
       | (at_builtin; go_loud (refine wpList_append_oneN _ (w6.heap.size + 1) (by rw [size_al]) #[.int .i64 xq.t, .int .i64 xq.x, .int .i64 xq.y, .int .i64 xq.h, .int .i64 xq.r, .int .i64 xq.b] rfl (.tmp 52) (.tmp 54) 43 rfl w.heap.size 52 i47 (.agg #[.int .i64 0, .int .i64 0, .int .i64 0, .int .i64 0, .int .i64 0, .int .i64 0]) 6 48 Tryz.underlying43 E0 E1 E2 E3 rfl (by decide) (.slice none 0 0) 0 _ rfl (HO6.out.alloc _) rfl rfl (by simp [Value.oneCell']) (by omega) (by decide) (by rw [size_al]; omega) ?_; intro g7 cap7 w7 hv7 hg7 hat7 hlt7)))
      go_ret
      refine ⟨some ⟨g7, 0, none⟩, cap7, by rw [HLP.out, HNE.out]; rfl, ?_, below_app (HB6.out.alloc HB6.out.size _) (by rw [size_al]; omega) (HO6.out.alloc _) (Nat.le_refl _) hg7⟩
      rw [HLP.out, HNE.out]
      exact hv7
     ·rw [if_neg hx0] at HNE
      have x1 : (xe == 0) = false := by rw [beq_eq_false_iff_ne]; exact hx0
      clear hx0
      go_wp2_with (first
       | (go_at_call 15; go_loud (refine (HX.out _ (by exact (HB2.out.alloc HB2.out.size _))).mono ?_; rintro e w6 ⟨rfl, hb6, hb6'⟩; have HB6 := Lib.hid hb6; have HO6 := Lib.hid (World.ownsRow_nil w6 w.heap.size 52 6); have hz6 := HB6.out.size; clear hb6 hb6'; unfold ndA)))
      go_ret
      refine ⟨none, 0, by rw [HLP.out, HNE.out]; rfl, ?_, HB6.out.alloc HB6.out.size _⟩
      rw [HLP.out, HNE.out]
      exact HO6.out.alloc _
   ·have e1 : decide (fm ≤ t) = false := decide_eq_false hle
    have HG2 : Hid (∀ j, m ≤ j → j < ln → t < fstT legs[j]!) := Lib.hid (fun j h1 h2 => by
     by_cases e : j = m
     ·subst e; rw [HFE.out]; omega
     ·exact HG.out j (by omega) h2)
    clear hle
    go_wp2_with (go_at_call 82; go_loud (refine HFm.out.mono ?_; rintro e w1 ⟨rfl, hww⟩; subst w1))
    go_roundw
    case rel => exact ⟨rfl, m, by omega, rfl, HG2, HB⟩
    case measure => simp [intOf]
end
section
open Go.RowKit Go.Shelf
attribute [local go_sem] Oper.semAt_some
theorem TuA.nil {A : Option Addr} {n : Nat} {l : Tu} {w : World} (h : TuA A n l w) : A = none → n = 0 := fun hA => by
 refine Nat.eq_zero_of_not_pos fun h0 => ?_
 obtain ⟨_, _, e, _⟩ := h.2 h0
 rw [hA] at e; cases e
theorem ndV_one (x : Nd) : ∀ u ∈ ndV x, u.oneCell' = true := by
 intro u hu
 simp only [ndV, List.mem_cons, List.not_mem_nil, or_false] at hu
 rcases hu with rfl | rfl | rfl | rfl | rfl | rfl <;> rfl
theorem CloneT_any {A : Option Addr} {n : Nat} (c : Nat) {l : Tu} {w : World} (h : TuA A n l w) (hn : n ≤ 1000) :
  Calls Tryz.prog 46 #[.slice A n c] w fun e w' => ∃ v, e = .returned v ∧ w'.ownsRow w.heap.size 52 6 v n (rowsV ndV l) ∧ Below w.heap.size w w' := by
 have := CloneTu_any A n c (fun i => ndV l[i]!) w h.2 (fun _ _ => rfl) (fun i _ u hu => ndV_one _ u hu) h.nil (by unfold maxLen; omega) (by omega)
 rw [← h.1, ← rowsV_flat ndV_len l] at this
 rw [← h.1]; exact this
theorem TuA.of_own {base n c : Nat} {A : Option Addr} {l : Tu} {w : World} (h : w.ownsRow base 52 6 (.slice A n c) n (rowsV ndV l)) (hn : l.length = n) : TuA A n l w :=
 ⟨hn, Sl_rows ndV_len h hn (by decide)⟩
abbrev SecN (l : Tu) := { n : Nd // n ∈ secs l }
theorem secs_len (l : Tu) : (secs l).length = (lstT l + 1 - fstT l).toNat := by simp [secs]
theorem secs_at {l : Tu} {k : Nat} (h : k < (secs l).length) : (secs l)[k] = atN l (fstT l + k) := by simp [secs]
theorem secs_mem {l : Tu} {n : Nd} (h : n ∈ secs l) : ∃ t : Int, fstT l ≤ t ∧ t ≤ lstT l ∧ n = atN l t := by
 unfold secs at h
 obtain ⟨k, hk, rfl⟩ := List.mem_map.1 h
 have := List.mem_range.1 hk
 exact ⟨fstT l + k, by omega, by omega, rfl⟩
theorem mem_secs {l : Tu} {t : Int} (h0 : fstT l ≤ t) (h1 : t ≤ lstT l) : atN l t ∈ secs l := by
 unfold secs
 refine List.mem_map.2 ⟨(t - fstT l).toNat, List.mem_range.2 (by omega), ?_⟩
 rw [show fstT l + (((t - fstT l).toNat : Nat) : Int) = t by omega]
set_option maxRecDepth 100000 in
set_option maxHeartbeats 4000000 in
theorem All_any (A : Option Addr) (n c : Nat) (l : Tu) (w : World) (hA : TuA A n l w) (hn : n ≤ 64) :
  Calls Tryz.prog 153 #[.slice A n c] w fun e w' => ∃ A' c', e = .returned (.func (.func 192) #[] #[.pointer (some ⟨w.heap.size, 0, none⟩)]) ∧ w'.cell? ⟨w.heap.size, 0, none⟩ = some (.slice A' n c') ∧ TuA A' n l w' ∧ Below w.heap.size w w' ∧ w.heap.size < w'.heap.size := by
 have HC := Lib.hid (fun (W : World) (hb : Below w.heap.size w W) => (CloneT_any c (hA.below hb) (by omega)).mono fun e W2 h => (show ∃ A' c', e = .returned (.slice A' n c') ∧ TuA A' n l W2 ∧ (∀ k, (Value.slice A' n c').ownBlock = some k → W.heap.size ≤ k) ∧ Below W.heap.size W W2 from by
  obtain ⟨v, e1, ho, hb2⟩ := h
  obtain ⟨A', c', rfl⟩ := own_shape ho
  exact ⟨A', c', e1, TuA.of_own ho hA.1, fun k hk => (ho.lt k hk).1, hb2⟩))
 obtain ⟨W0, hW0⟩ : ∃ W0, w.alloc (.cells #[.slice A n c] 44) = W0 := ⟨_, rfl⟩
 have hb0 : Below w.heap.size w W0 := by rw [← hW0]; exact (Below.refl _ _).alloc (Nat.le_refl _) _
 have hg0 : W0.heap[w.heap.size]? = some (.cells #[.slice A n c] 44 (0, 0)) := by rw [← hW0]; exact heap_alloc_new _ _
 have hz0 : w.heap.size < W0.heap.size := by rw [← hW0, size_al]; omega
 have HC0 := Lib.hid (HC.out W0 hb0)
 have HB0 := Lib.hid hb0
 have HG0 := Lib.hid hg0
 have c0 : W0.cell? ⟨w.heap.size, 0, none⟩ = some (.slice A n c) := cell_of_row _ _ 0 _ _ _ hg0
 clear HC hg0 hb0 hA
 go_enter Tryz.func153, Tryz.ntmps153
 go_wp2_with (go_at_call 46; go_loud (refine HC0.out.mono ?_; rintro e w1 ⟨A', c', rfl, hT, hk, hb1⟩; have hg1 := (hb1.block w.heap.size hz0).trans HG0.out; have hf1 : w1.frozen? ⟨w.heap.size, 0, none⟩ = false := frozen_of_row _ _ _ _ _ hg1; have hc1 : w1.cell? ⟨w.heap.size, 0, none⟩ = some (.slice A n c) := cell_of_row _ _ 0 _ _ _ hg1; have HT := Lib.hid hT; have HK := Lib.hid hk; have HB1 := Lib.hid hb1; clear hT hk hb1 hg1))
 go_ret
 have hz1 := HB1.out.size
 refine ⟨A', c', rfl, World.cell?_setCell_same' _ _ _ (by rw [hc1]; rfl), ⟨HT.out.1, ?_⟩, (HB0.out.trans (HB1.out.mono HB0.out.size)).setCell (p := ⟨w.heap.size, 0, none⟩) (Nat.le_refl _) _, by simp [World.setCell]; omega⟩
 intro h0
 obtain ⟨b, off, hb, hlt, hr⟩ := HT.out.2 h0
 have hne : W0.heap.size ≤ b := HK.out b (by rw [hb]; rfl)
 refine ⟨b, off, hb, by simp [World.setCell]; exact hlt, fun i hi j v hv => ?_⟩
 have hx : ((w1.setCell ⟨w.heap.size, 0, none⟩ (.slice A' n c')).heap[b]?) = w1.heap[b]? := Below.heap_setCell _ _ _ _ (by show b ≠ w.heap.size; omega)
 exact (World.cell?_of_block (a := ⟨b, off + i * 6 + j, none⟩) hx).trans (hr i hi j v hv)
set_option maxRecDepth 100000 in
set_option maxHeartbeats 8000000 in
theorem All1_in (n : Nat) (hn : 1 ≤ n) (lp Bn n0 : Nat) (A : Option Addr) (c : Nat) (l : Tu) (hok : TuOk l) (J Jx : List (SecN l) → World → Prop) (W : World) (hJ : AbidesFrom W.heap.size J)
  (hY : ∀ pre x W1, J pre W1 → pre.length < 300000 → YieldAt Fence.wide (n - 1) Tryz.prog lp #[ndA x.1] W1 fun e W' =>
   (e = .returned (.bool true) ∧ J (pre ++ [x]) W' ∧ Below n0 W1 W') ∨ (e = .returned (.bool false) ∧ Jx (pre ++ [x]) W'))
  (hc : W.cell? ⟨Bn, 0, none⟩ = some (.slice A l.length c)) (hBn : Bn < n0) (hS : Sl W n0 6 A l.length (fun i => ndV l[i]!)) (hn0 : n0 ≤ W.heap.size) (h0 : J [] W) :
  CallsIn Fence.wide n Tryz.prog 192 #[.func (.yield lp) #[] #[], .pointer (some ⟨Bn, 0, none⟩)] W fun e W' => (∃ v, e = .returned v) ∧
   ((∃ ys : List (SecN l), ys.map (·.1) = secs l ∧ J ys W') ∨ (∃ pre : List (SecN l), True ∧ Jx pre W')) := by
 have hT : ∀ W', Below n0 W W' → TuA A l.length l W' := fun W' hb => ⟨rfl, (hS.below hb).more (Nat.le_trans hn0 hb.size)⟩
 have hl1 := hok.n1
 have hl0 := hok.n0
 have HCk := Lib.hid (fun (W' : World) (hb : Below n0 W W') => (TCheck_any A l.length c l W' (hT W' hb) (by unfold maxLen; omega)).mono fun e W2 h => (show e = .returned (.int .i64 0) ∧ Below W'.heap.size W' W2 from ⟨by rw [h.1, hok.e], h.2⟩))
 have HEn := Lib.hid (fun (W' : World) (hb : Below n0 W W') => Ends_any A l.length c l W' (hT W' hb) (by omega) (by omega))
 have HAt := Lib.hid (fun (W' : World) (t : Int) (hb : Below n0 W W') (h1 : fstT l ≤ t) (h2 : t ≤ lstT l) => at_any A l.length c l t W' (hT W' hb) hok h1 h2)
 have HCB := Lib.hid (fun (W' : World) (hb : Below n0 W W') => (hb.cell (p := ⟨Bn, 0, none⟩) hBn).trans hc)
 have f0 := hok.fst0
 have f1 := hok.lst1
 have f2 := hok.ends
 have HLen := Lib.hid (secs_len l)
 have HMem := Lib.hid (fun t => @mem_secs l t)
 have HSec := Lib.hid (fun k => @secs_at l k)
 have hJn : ∀ ys (a b : World), J ys a → Below a.heap.size a b → J ys b := fun ys a b hj hb => hJ ys a b none hj ⟨hb.os, hb.tape, hb.output, hb.size, fun k hk _ => hb.block k hk⟩ (fun r e => by cases e)
 have HJn := Lib.hid hJn
 have HJ0 := Lib.hid h0
 have HY := Lib.hid hY
 have hst0 : Hid (∃ ys : List (SecN l), ys.map (·.1) = (secs l).take 0 ∧ J ys W) := Lib.hid ⟨[], rfl, h0⟩
 have c0 : W.cell? ⟨Bn, 0, none⟩ = some (.slice A l.length c) := hc
 have HC0 := Lib.hid (HCk.out W (Below.refl _ _))
 clear hY hJn h0 hJ hc hS hT
 generalize hfs : fstT l = f at *
 generalize hls : lstT l = t1 at *
 obtain ⟨m, hm⟩ : ∃ m, (t1 + 1 - f).toNat = m := ⟨_, rfl⟩
 rw [hm] at HLen
 have hm1 : t1 + 1 - f = (m : Int) := by omega
 have HM1 := Lib.hid hm1
 clear hm hm1 hfs hls
 refine callsIn_of_wp Tryz.func192 rfl trivial ?_ rfl
 simp only [Tryz.ntmps192, List.size_toArray, List.length_cons, List.length_nil, Nat.reduceAdd, Nat.reduceSub, Array.replicate_succ, Array.replicate_zero, List.push_toArray, List.append_toArray, List.nil_append, List.cons_append]
 gi_wp2_with (first
  | (refine ⟨trivial, ?_⟩; gi_at_call 47; refine callsIn_wide.2 (HC0.out.mono ?_); rintro e w1 ⟨rfl, hb1⟩; have HB1 := Lib.hid (hb1.mono hn0); have c1 := HCB.out w1 (hb1.mono hn0); have HE1 := Lib.hid (HEn.out w1 (hb1.mono hn0)); have HS1 : Hid (∃ ys : List (SecN l), ys.map (·.1) = (secs l).take 0 ∧ J ys w1) := Lib.hid (by obtain ⟨ys, hy1, hy2⟩ := hst0.out; exact ⟨ys, hy1, HJn.out _ _ _ hy2 hb1⟩); have HW1 := Lib.hid hb1; clear hb1)
  | (refine ⟨trivial, ?_⟩; gi_at_call 48; refine callsIn_wide.2 (HE1.out.mono ?_); rintro e w2 ⟨rfl, hb2⟩; have HW2 := Lib.hid (bstep HW1.out hb2); have HS2 : Hid (∃ ys : List (SecN l), ys.map (·.1) = (secs l).take 0 ∧ J ys w2) := Lib.hid (by obtain ⟨ys, hy1, hy2⟩ := HS1.out; exact ⟨ys, hy1, HJn.out _ _ _ hy2 hb2⟩); clear hb2))
 gi_loopw [5] (fun t wr => ∃ k : Nat, k ≤ m ∧ t = .int .i64 (f + (k : Int)) ∧ Hid (∃ ys : List (SecN l), ys.map (·.1) = (secs l).take k ∧ J ys wr) ∧ Hid (Below n0 W wr)) (fun t _ => (t1 + 1 - intOf t).toNat)
 case atStart => exact ⟨0, by omega, by simp, HS2, Lib.hid (HW2.out.mono hn0)⟩
 case round =>
  obtain ⟨k, hk, rfl, HS, HB⟩ := hrel
  clear HS1 HS2 HW1 HW2 HE1 HC0 hst0 c1 c0
  have cr := HCB.out wr HB.out
  have hM := HM1.out
  obtain ⟨T, hT⟩ : ∃ T, f + (k : Int) = T := ⟨_, rfl⟩
  rw [hT]
  by_cases hlt : k < m
  ·have b1 : decide (T ≤ t1) = true := decide_eq_true (by omega)
   have b2 : decide (t1 < T) = false := decide_eq_false (by omega)
   have hw : IntKind.i64.wrap (T + 1) = T + 1 := IntWalk.i64_in _ (by omega)
   have HA := Lib.hid (HAt.out wr T HB.out (by omega) (by omega))
   have hmem : atN l T ∈ secs l := HMem.out T (by omega) (by omega)
   obtain ⟨x, hx⟩ : ∃ x : SecN l, x.1 = atN l T := ⟨⟨_, hmem⟩, rfl⟩
   have HX := Lib.hid hx
   rw [← hx] at HA
   have HNx : Hid ((secs l).take (k + 1) = (secs l).take k ++ [x.1]) := Lib.hid (by
    have hkl : k < (secs l).length := by rw [HLen.out]; exact hlt
    rw [List.take_succ_eq_append_getElem hkl, HSec.out k hkl, hT, hx])
   have hsz := HB.out.size
   have HT := Lib.hid hT
   have HLT := Lib.hid hlt
   clear hx hmem hM hT hlt
   unfold ndA at HA
   gi_wp2_with (refine ⟨trivial, ?_⟩; gi_at_call 49; refine callsIn_wide.2 (HA.out.mono ?_); rintro e w3 ⟨rfl, hb3⟩; obtain ⟨ys, hy1, hy2⟩ := HS.out; have hl4 : ys.length < 300000 := (by have e1 := congrArg List.length hy1; rw [List.length_map, List.length_take] at e1; have := HM1.out; omega); have hy3 : J ys w3 := HJn.out _ _ _ hy2 hb3; obtain ⟨fn, tmps, assign, body, hy, hR⟩ := HY.out ys x w3 hy3 hl4; unfold ndA at hy; have HB3 := Lib.hid (HB.out.trans (hb3.mono (by have := hsz; omega))); have HY1 := Lib.hid hy1; clear hb3 hy2 hy3 hy1)
   refine hR.mono ?_
   rintro e W3 (⟨rfl, hJ3, hk3⟩ | ⟨rfl, hJx3⟩)
   ·gi_wp2
    go_roundw
    case rel => exact ⟨k + 1, by have := HLT.out; omega, by rw [← HT.out]; go_num, Lib.hid ⟨_, by rw [List.map_append, HY1.out, HNx.out]; rfl, hJ3⟩, Lib.hid (HB3.out.trans hk3)⟩
    case measure => have := HLT.out; have := HM1.out; have := HT.out; simp [intOf]; omega
   ·gi_wp2
    refine bodyPost_ret (results_none rfl _ _ _) rfl ?_
    exact ⟨⟨_, rfl⟩, .inr ⟨_, trivial, hJx3⟩⟩
  ·have b1 : decide (T ≤ t1) = false := decide_eq_false (by omega)
   have b2 : decide (t1 < T) = true := decide_eq_true (by omega)
   have HLT := Lib.hid hlt
   clear hM hT hlt
   gi_wp2
   go_end0
   obtain ⟨ys, hy1, hy2⟩ := HS.out
   exact ⟨⟨_, rfl⟩, .inl ⟨ys, by rw [hy1, List.take_of_length_le (by rw [HLen.out]; have := HLT.out; omega)], hy2⟩⟩
end
section
open Go.RowKit
def noDefer (ops : Array Oper) : Bool := ops.toList.all fun o => match o.op with
 | .defer _ => false
 | _ => true
theorem noDefer_spec {ops : Array Oper} (h : noDefer ops = true) {i : Nat} {o : Oper} (hi : ops[i]? = some o) : ∀ c, o.op ≠ .defer c := by
 intro c hc
 have hm : o ∈ ops.toList := by
  have := Array.mem_of_getElem? hi
  exact Array.mem_toList_iff.2 this
 have := List.all_eq_true.1 h o hm
 rw [hc] at this
 cases this
section
variable {P : Program} {ops : Array Oper} {Q : Exit → Act → World → Prop} {lp n : Nat}
theorem wpOp_round (hnd : noDefer ops = true) (hno : ¬ LetsOut Q) {i : Nat} {K K' : Act → World → Prop} {a : Act} {w : World} (hK : ∀ a w, K a w → K' a w) (h : wpOp P ops Q i K a w) : wpOpIn (Fence.wide.inRound lp) n P ops Q i K' a w := by
 unfold wpOp at h
 unfold wpOpIn
 cases ho : ops[i]? with
 | none => rw [ho] at h; exact hK _ _ h
 | some o =>
  rw [ho] at h
  simp only at h ⊢
  split
  ·rename_i hw
   rw [if_pos hw] at h
   rcases h with h | h
   ·refine ⟨fun _ _ => trivial, ?_⟩

    rw [Oper.semAt_eq _ _ _ (noDefer_spec hnd ho)]
    unfold Oper.wp at h
    cases hr : (execOp a.eval o).run P w with
    | ok v w' =>
     rw [hr] at h
     cases v with
     | value v => exact hK _ _ h
     | skip => exact hK _ _ h
     | defer d => exact hK _ _ h
     | enter f args =>
      refine ⟨fun hh => by simp [Fence.inRound, Fence.wide] at hh, ?_⟩
      refine CallsIn.mono (callsIn_wide.2 h) (fun e w'' he => ?_)
      cases e with
      | returned v => exact hK _ _ he
      | panicked ch => exact he
      | outgrown => exact he
     | row row args => exact ⟨fun hh => by simp [Fence.inRound, Fence.wide] at hh, fun c cs _ => let ⟨v, w'', r, s⟩ := h c cs; ⟨v, w'', hK _ _ r, stepsIn_wide.2 s⟩⟩
     | _ => exact h.elim
    | halt hh w' =>
     rw [hr] at h
     cases hh with
     | panic v => exact h
     | _ => exact h.elim
   ·exact absurd h.2 hno
  ·rename_i hw
   rw [if_neg hw] at h
   exact ⟨fun _ _ => trivial, hK _ _ h⟩
theorem wpAny_round (hnd : noDefer ops = true) (hno : ¬ LetsOut Q) {md : Region.Mode} : ∀ (fuel : Nat) (listed : Array Bool) (a : Act) (w : World), wpAny P md ops Q fuel listed a w → wpAnyIn (Fence.wide.inRound lp) n P md ops Q fuel listed a w
 | 0, _, _, _, h => h
 | fuel + 1, _listed, _a, _w, h => ⟨h.1, fun i hi => wpOp_round hnd hno (fun a w h => wpAny_round hnd hno fuel _ a w h) (h.2 i hi)⟩
theorem wpAny_out {Q' : Exit → Act → World → Prop} {_md : Region.Mode} {R : Act → World → Prop} (hQ : ∀ a w, R a w → Q .normal a w) (hno : Q' = fun e a w => e = .normal ∧ R a w) {id : Nat} {d : Bool} {a : Act} {w : World} (h : (Code.region id ops d).wpIn (Fence.wide.inRound lp) n P Q' a w) : (Code.region id ops d).wpIn (Fence.wide.inRound lp) n P Q a w := by
 subst hno
 refine wpIn_mono h (fun e a w he => ?_)
 obtain ⟨rfl, he⟩ := he
 exact hQ _ _ he
end
theorem round_quiet {P : Program} {id lp n : Nat} {Q : Exit → Act → World → Prop} {a : Act} {w : World} {l : List Oper} (hm : P.follows .mixedOrders = true) (hB : Region.lexB .any l.toArray = true) (hnd : noDefer l.toArray = true)
  (h : wpQuiet P l.toArray (fun w' => ∃ p : Regrown, w' = Sort.grow (redrawn w p.d) p.os) (fun a' => ∀ w', (∃ p : Regrown, w' = Sort.grow (redrawn w p.d) p.os) → Q .normal a' w') l a) : (Code.region id l.toArray true).wpIn (Fence.wide.inRound lp) n P Q a w := by
 refine wpAny_out (R := fun a w => Q .normal a w) (_md := .any) (fun _ _ h => h) rfl (wpIn_region_any hm (wpAny_round hnd (by rintro ⟨_, _, h, _⟩; cases h) _ _ _ _ ?_))
 have hB' := hB
 simp only [Region.lexB, Bool.and_eq_true] at hB
 refine wpAny_of_quiet (Q := fun a' => ∀ w', (∃ p : Regrown, w' = Sort.grow (redrawn w p.d) p.os) → Q .normal a' w') (C := fun w' => ∃ p : Regrown, w' = Sort.grow (redrawn w p.d) p.os) (fun _ w' hw' h => ⟨rfl, h w' hw'⟩) _ _ _ _ ⟨⟨w.drawn + 1, #[]⟩, by rw [Sort.grow_empty]; rfl⟩ ?_
 have := wpAnyQ_lex (C := fun w' => ∃ p : Regrown, w' = Sort.grow (redrawn w p.d) p.os) (md := .any) hB.1 l.toArray.toList 0 (Array.replicate l.toArray.size false) a (by simp) (by simpa using hB.2) (by simpa using h)
 simpa using this
end
end Go.Proofs.YtaebebpldkciiaaGreatDoor
