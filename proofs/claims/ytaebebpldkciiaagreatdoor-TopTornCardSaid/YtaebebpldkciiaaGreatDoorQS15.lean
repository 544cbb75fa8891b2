/- The fixed examples of the season. -/
import Derived.Test.YtaebebpldkciiaaGreatDoorQS13
import Derived.Test.YtaebebpldkciiaaGreatDoorQB1
import Derived.Test.YtaebebpldkciiaaGreatDoorQS14
namespace Go.Proofs.YtaebebpldkciiaaGreatDoor
open Go.RowKit
def dxS : Su := ⟨9, 9, fun _ => 0⟩
def dxA : Inp := ⟨0, 0, ⟨#[65]⟩, ⟨#[69, 65, 83, 84]⟩, .empty, stT 0 0 0 9, 0, 0, false⟩
def dxB : Inp := ⟨0, 0, ⟨#[66]⟩, ⟨#[69, 65, 83, 84]⟩, .empty, stT 5 0 3 9, 0, 0, false⟩
theorem dx_run : ((runP kindsS dxS [dxA, dxB]).s, (runP kindsS dxS [dxA, dxB]).fl, (runP kindsS dxS [dxA, dxB]).a, (runP kindsS dxS [dxA, dxB]).r) = (10, 1, 1, 1) := by kernel_rfl
end Go.Proofs.YtaebebpldkciiaaGreatDoor
namespace Go.Proofs.YtaebebpldkciiaaGreatDoor
open Go.RowKit
theorem ins2 {W : World} {b : Nat} {x y : Inp} {g h : Hd} (hb : W.heap[b]? = some (.cells (inV x g ++ inV y h).toArray 62 (0, 0))) (hx : TuN W.heap.size g x.tube W) (hy : TuN W.heap.size h y.tube W) (bx : InB x) (bY : InB y) :
  InsA W.heap.size (some ⟨b, 0, none⟩) 2 [x, y] [g, h] W := by
 have key : ∀ i, i < 2 → i = 0 ∨ i = 1 := by omega
 refine ⟨rfl, rfl, fun _ => ⟨b, 0, rfl, (Array.getElem?_eq_some_iff.1 hb).1, fun i hi j v hv => ?_⟩, fun i hi => ?_, fun i hi => ?_⟩
 ·rw [cell_of_row W b _ _ _ _ hb, List.getElem?_toArray]
  rcases key i hi with e | e <;> subst e
  ·have hj : j < 9 := by rw [← inV_len x g]; exact (List.getElem?_eq_some_iff.1 hv).1
   rw [show 0 + 0 * 9 + j = j by omega, List.getElem?_append_left (by rw [inV_len]; exact hj)]
   exact hv
  ·have hj : j < 9 := by rw [← inV_len y h]; exact (List.getElem?_eq_some_iff.1 hv).1
   rw [show 0 + 1 * 9 + j = 9 + j by omega, List.getElem?_append_right (by rw [inV_len]; omega), inV_len, show 9 + j - 9 = j by omega]
   exact hv
 ·rcases key i hi with e | e <;> subst e
  ·exact hx
  ·exact hy
 ·rcases key i hi with e | e <;> subst e
  ·exact bx
  ·exact bY
theorem dxS_E : suE dxS = 0 := by kernel_rfl
theorem dx_rep : repA (runP kindsS dxS [dxA, dxB]) = .agg #[.int .i64 10, .int .i64 1, .int .i64 0, .int .i64 0, .int .i64 0, .int .i64 0, .int .i64 1, .int .i64 1] := by
 have h := dx_run
 simp only [Prod.mk.injEq] at h
 obtain ⟨h1, h2, h3, h4⟩ := h
 unfold repA repV
 rw [h1, h2, h3, h4]
 rfl
structure SeaW (w : World) : Prop where
 ks : KsAt kindsS w
 pos : 0 < w.heap.size
 tab : TabAt w
theorem SeaW.below {w w' : World} (h : SeaW w) (hb : Below w.heap.size w w') : SeaW w' := ⟨h.ks.below hb h.pos, Nat.lt_of_lt_of_le h.pos hb.size, h.tab.below hb⟩
theorem inb (x : Inp) (h1 : x.call.size ≤ 10) (h2 : x.by_.size ≤ 10) (h3 : x.to_.size ≤ 10) (h4 : x.tube.length ≤ 10) : InB x := ⟨by unfold maxLen; omega, by unfold maxLen; omega, by unfold maxLen; omega, by unfold maxLen; omega⟩
theorem run2 {S : Su} {x y : Inp} {g h : Hd} {b : Nat} {W : World} {k1 : Value} (hW : SeaW W) (hb : W.heap[b]? = some (.cells (inV x g ++ inV y h).toArray 62 (0, 0))) (hx : TuN W.heap.size g x.tube W) (hy : TuN W.heap.size h y.tube W) (bx : InB x) (bY : InB y) (hE : suE S = 0) (hr : repA (runP kindsS S [x, y]) = k1) :
  Calls Tryz.prog 11 #[suA S, .slice (some ⟨b, 0, none⟩) 2 2, .slice none 0 0] W fun e w' => e = .returned (.tuple #[k1, .int .i64 0]) ∧ Below W.heap.size W w' := by
 refine (Run_any S [x, y] [g, h] 2 (some ⟨b, 0, none⟩) 2 none 0 0 (fun _ => 0) W hW.ks hW.pos (ins2 hb hx hy bx bY) (by omega) (fun h => absurd h (by omega)) (by omega) hW.tab).mono ?_
 rintro e w' ⟨h1, h2⟩
 rw [if_pos hE, hr] at h1
 exact ⟨h1, h2⟩
theorem tun_of {A : Option Addr} {n c : Nat} {l : Tu} {w : World} (h : TuA A n l w) : TuN w.heap.size ⟨A, n, c⟩ l w := h
set_option maxRecDepth 100000 in
theorem straight36 (x y a b : Int) (w : World) : Calls Tryz.prog 36 #[.agg #[.int .i64 x, .int .i64 y], .int .i64 a, .int .i64 b] w fun e w' => (∃ A c, e = .returned (.slice A 2 c) ∧ TuA A 2 (stT x y a b) w') ∧ Below w.heap.size w w' := by
 go_enter Tryz.func36, Tryz.ntmps36
 go_wp2
 go_ret
 have hb : ((w.alloc (.cells #[.int .i64 x, .int .i64 y] 48)).alloc (.cells #[.int .i64 a, .int .i64 x, .int .i64 y, .int .i64 0, .int .i64 1, .int .i64 0, .int .i64 b, .int .i64 x, .int .i64 y, .int .i64 0, .int .i64 1, .int .i64 0] 52)).heap[w.heap.size + 1]? = some (.cells #[.int .i64 a, .int .i64 x, .int .i64 y, .int .i64 0, .int .i64 1, .int .i64 0, .int .i64 b, .int .i64 x, .int .i64 y, .int .i64 0, .int .i64 1, .int .i64 0] 52 (0, 0)) := by
  rw [← size_al w (.cells #[.int .i64 x, .int .i64 y] 48)]; exact heap_alloc_new _ _
 refine ⟨⟨some ⟨w.heap.size + 1, 0, none⟩, 2, rfl, rfl, fun _ => ⟨w.heap.size + 1, 0, rfl, (Array.getElem?_eq_some_iff.1 hb).1, fun i hi j v hv => ?_⟩⟩, ((Below.refl _ _).alloc (Nat.le_refl _) _).alloc (by simp) _⟩
 rcases (show i = 0 ∨ i = 1 by omega) with e | e <;> subst e
 ·match j, hv with
  | 0, hv => cases hv; exact cell_of_row _ _ 0 _ _ _ hb
  | 1, hv => cases hv; exact cell_of_row _ _ 1 _ _ _ hb
  | 2, hv => cases hv; exact cell_of_row _ _ 2 _ _ _ hb
  | 3, hv => cases hv; exact cell_of_row _ _ 3 _ _ _ hb
  | 4, hv => cases hv; exact cell_of_row _ _ 4 _ _ _ hb
  | 5, hv => cases hv; exact cell_of_row _ _ 5 _ _ _ hb
 ·match j, hv with
  | 0, hv => cases hv; exact cell_of_row _ _ 6 _ _ _ hb
  | 1, hv => cases hv; exact cell_of_row _ _ 7 _ _ _ hb
  | 2, hv => cases hv; exact cell_of_row _ _ 8 _ _ _ hb
  | 3, hv => cases hv; exact cell_of_row _ _ 9 _ _ _ hb
  | 4, hv => cases hv; exact cell_of_row _ _ 10 _ _ _ hb
  | 5, hv => cases hv; exact cell_of_row _ _ 11 _ _ _ hb
def dxV (A : Option Addr) (c : Nat) (B : Option Addr) (d : Nat) : Array Value := #[.int .i64 0, .int .i64 0, .string ⟨#[65]⟩, .string ⟨#[69, 65, 83, 84]⟩, .string ⟨#[]⟩, .slice A 2 c, .int .i64 0, .int .i64 0, .bool false, .int .i64 0, .int .i64 0, .string ⟨#[66]⟩, .string ⟨#[69, 65, 83, 84]⟩, .string ⟨#[]⟩, .slice B 2 d, .int .i64 0, .int .i64 0, .bool false]
theorem dxRun {w w2 : World} {A B : Option Addr} {c d : Nat} (hW : SeaW w) (hb : Below w.heap.size w w2) (ht : TuA A 2 (stT 0 0 0 9) w2) (ht2 : TuA B 2 (stT 5 0 3 9) w2) :
  Calls Tryz.prog 11 #[.agg #[.int .i64 9, .int .i64 9, .int .i64 0, .int .i64 0, .int .i64 0, .int .i64 0, .int .i64 0, .int .i64 0, .int .i64 0, .int .i64 0, .int .i64 0, .int .i64 0, .int .i64 0, .int .i64 0, .int .i64 0, .int .i64 0, .int .i64 0, .int .i64 0], .slice (some ⟨w2.heap.size, 0, none⟩) 2 2, .slice none 0 0] (w2.alloc (.cells (dxV A c B d) 62)) fun e w' => e = .returned (.tuple #[.agg #[.int .i64 10, .int .i64 1, .int .i64 0, .int .i64 0, .int .i64 0, .int .i64 0, .int .i64 1, .int .i64 1], .int .i64 0]) ∧ Below w.heap.size w w' := by
 have hb3 : Below w2.heap.size w2 (w2.alloc (.cells (dxV A c B d) 62)) := (Below.refl _ _).alloc (Nat.le_refl _) _
 have hbw := hb.trans (hb3.mono hb.size)
 refine (run2 (S := dxS) (x := dxA) (y := dxB) (g := ⟨A, 2, c⟩) (h := ⟨B, 2, d⟩) (hW.below hbw) (heap_alloc_new w2 (.cells (dxV A c B d) 62)) (tun_of (ht.below hb3)) (tun_of (ht2.below hb3)) (inb _ (by decide) (by decide) (by decide) (by decide)) (inb _ (by decide) (by decide) (by decide) (by decide)) dxS_E dx_rep).mono ?_
 rintro e w' ⟨h1, h2⟩
 exact ⟨h1, hbw.trans (h2.mono hbw.size)⟩
set_option maxRecDepth 100000 in
set_option maxHeartbeats 4000000 in
theorem fact10_any (w : World) (hW : SeaW w) : Calls Tryz.prog 10 #[] w fun e w' => e = .returned (.bool true) ∧ Below w.heap.size w w' := by
 have HW := Lib.hid hW
 have HT := Lib.hid (fun (x y a b : Int) (W : World) => straight36 x y a b W)
 have tok1 : True := trivial
 clear hW
 go_enter Tryz.func10, Tryz.ntmps10
 go_wp2_with (first
  | (go_at_call 36; have _t := tok1; clear tok1; go_loud (refine (HT.out 0 0 0 9 _).mono ?_; rintro e w2 ⟨⟨A2, c2, rfl, ht2⟩, hb2⟩; have HB2 := Lib.hid hb2; have HT2 := Lib.hid ht2; clear ht2 hb2))
  | (go_at_call 36; go_loud (refine (HT.out 5 0 3 9 _).mono ?_; rintro e w4 ⟨⟨A4, c4, rfl, ht4⟩, hb4⟩; have HR := Lib.hid (dxRun (c := c2) (d := c4) HW.out (HB2.out.trans (hb4.mono HB2.out.size)) (HT2.out.below hb4) ht4); unfold dxV at HR; clear ht4 hb4))
  | (go_at_call 11; go_loud (refine HR.out.mono ?_; rintro e w3 ⟨rfl, hb3⟩; have HB3 := Lib.hid hb3; clear hb3)))
 go_ret
 exact ⟨rfl, HB3.out.alloc HB3.out.size _⟩
end Go.Proofs.YtaebebpldkciiaaGreatDoor
