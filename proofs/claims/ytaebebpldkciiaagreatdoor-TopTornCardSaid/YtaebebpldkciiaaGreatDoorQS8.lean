/- Package season: outside; the test for an owner. -/
import Derived.Test.YtaebebpldkciiaaGreatDoorQS5
import Derived.Test.YtaebebpldkciiaaGreatDoorQSQ
import Derived.Test.YtaebebpldkciiaaGreatDoorQShC
namespace Go.Proofs.YtaebebpldkciiaaGreatDoor
open Go.RowKit Go.Shelf Go.Proofs
set_option maxRecDepth 100000 in
set_option maxHeartbeats 4000000 in
theorem outside_any (a : Ac) (ha : AcOk a) (w : World) : Calls Tryz.prog 74 #[acA a] w fun e w' => e = .returned (.bool false) ∧ Below w.heap.size w w' := by
 have HWi := Lib.hid (fun W => Within_any a.n.x a.n.y a.x a.y a.n.r W ⟨ha.nd.x0, ha.nd.x1⟩ ⟨ha.nd.y0, ha.nd.y1⟩ ⟨ha.x0, ha.x1⟩ ⟨ha.y0, ha.y1⟩ ha.nd.r0 ha.nd.r1)
 rw [decide_eq_true ha.d] at HWi
 have k1 : IntKind.i64.wrap (a.h - a.n.h) = a.h - a.n.h := IntWalk.i64_in _ (by have := ha.h0; have := ha.h1; have := ha.nd.h0; have := ha.nd.h1; omega)
 have k2 : IntKind.i64.wrap (a.n.h - a.h) = a.n.h - a.h := IntWalk.i64_in _ (by have := ha.h0; have := ha.h1; have := ha.nd.h0; have := ha.nd.h1; omega)
 have k3 : decide (a.n.b < max (a.h - a.n.h) (a.n.h - a.h)) = false := (ac_inside ha).2
 unfold acA
 obtain ⟨V, hV⟩ : ∃ V, w.alloc (.cells #[.int .i64 a.n.t, .int .i64 a.n.x, .int .i64 a.n.y, .int .i64 a.n.h, .int .i64 a.n.r, .int .i64 a.n.b, .int .i64 a.x, .int .i64 a.y, .int .i64 a.h] 139) = V := ⟨_, rfl⟩
 have hbV : Below w.heap.size w V := by rw [← hV]; exact (Below.refl _ _).alloc (Nat.le_refl _) _
 have hrV : V.heap[w.heap.size]? = some (.cells #[.int .i64 a.n.t, .int .i64 a.n.x, .int .i64 a.n.y, .int .i64 a.n.h, .int .i64 a.n.r, .int .i64 a.n.b, .int .i64 a.x, .int .i64 a.y, .int .i64 a.h] 139 (0, 0)) := by rw [← hV]; exact heap_alloc_new _ _
 have hzV : V.heap.size = w.heap.size + 1 := by rw [← hV, size_al]
 have HR := Lib.hid (fun (W : World) (hb : Below V.heap.size V W) => (hb.block w.heap.size (by omega)).trans hrV)
 have HBV := Lib.hid hbV
 clear hbV hrV hzV ha
 go_enter Tryz.func74, Tryz.ntmps74
 go_upto_region 1 with (fail)
 clear hV
 have r := HR.out V (Below.refl _ _)
 have c1 : V.cell? ⟨w.heap.size, 1, none⟩ = some (.int .i64 a.n.x) := cell_of_row V _ 1 _ _ _ r
 have c2 : V.cell? ⟨w.heap.size, 1 + 1, none⟩ = some (.int .i64 a.n.y) := cell_of_row V _ 2 _ _ _ r
 have c4 : V.cell? ⟨w.heap.size, 4, none⟩ = some (.int .i64 a.n.r) := cell_of_row V _ 4 _ _ _ r
 have c6 : V.cell? ⟨w.heap.size, 6, none⟩ = some (.int .i64 a.x) := cell_of_row V _ 6 _ _ _ r
 have c7 : V.cell? ⟨w.heap.size, 6 + 1, none⟩ = some (.int .i64 a.y) := cell_of_row V _ 7 _ _ _ r
 clear r
 go_wp2_with (go_at_call 121; go_loud (refine (HWi.out _).mono ?_; rintro e w1 ⟨rfl, hb1⟩; have r1 := HR.out w1 hb1; have d3 : w1.cell? ⟨w.heap.size, 3, none⟩ = some (.int .i64 a.n.h) := cell_of_row w1 _ 3 _ _ _ r1; have d5 : w1.cell? ⟨w.heap.size, 5, none⟩ = some (.int .i64 a.n.b) := cell_of_row w1 _ 5 _ _ _ r1; have d8 : w1.cell? ⟨w.heap.size, 8, none⟩ = some (.int .i64 a.h) := cell_of_row w1 _ 8 _ _ _ r1; have HB1 := Lib.hid (HBV.out.trans (hb1.mono HBV.out.size)); clear r1 hb1))
 go_ret
 exact ⟨rfl, HB1.out⟩
def pOw (call : ByteArray) (o : Ow) : Bool := (o.call.toList == call.toList) && !o.owner.toList.isEmpty
set_option maxRecDepth 100000 in
theorem pred72 (call : ByteArray) (B : Nat) (w : World) (h : w.cell? ⟨B, 0, none⟩ = some (.string call)) :
  PredBelow Tryz.prog 72 #[.pointer (some ⟨B, 0, none⟩)] (fun x => .agg (owV x).toArray) (pOw call) w := fun W x hb => by
 have hBw : B < w.heap.size := World.block_lt_of_cell? w _ h
 have c0 : W.cell? ⟨B, 0, none⟩ = some (.string call) := (hb.cell (p := ⟨B, 0, none⟩) hBw).trans h
 have hB : B < W.heap.size := Nat.lt_of_lt_of_le hBw hb.size
 have e1 : (B != W.heap.size) = true := by simp; omega
 have HB := Lib.hid hb
 show Calls _ _ _ _ fun e w' => e = .returned (.bool (pOw call x)) ∧ _
 unfold pOw
 clear h hb hBw
 obtain ⟨xc, xo, xf⟩ := x
 show Calls Tryz.prog 72 #[.agg #[.string xc, .string xo, .string xf], .pointer (some ⟨B, 0, none⟩)] W _
 by_cases ht : (xc.toList == call.toList) = true
 ·go_enter Tryz.func72, Tryz.ntmps72
  go_wp2
  go_ret
  rw [ht]
  exact ⟨rfl, HB.out.alloc HB.out.size _⟩
 ·have ht : (xc.toList == call.toList) = false := by simpa using ht
  go_enter Tryz.func72, Tryz.ntmps72
  go_wp2
  go_ret
  rw [ht]
  exact ⟨rfl, HB.out.alloc HB.out.size _⟩
theorem owned_has {A : Option Addr} {n c : Nat} {l : List Ow} {call : ByteArray} {B : Nat} {w : World} (hA : OwA A n l w) (hn : n ≤ 24) (hB : w.cell? ⟨B, 0, none⟩ = some (.string call)) (hx : ∃ o ∈ l, pOw call o = true) :
  Calls Tryz.prog 71 #[.slice A n c, .func (.func 72) #[] #[.pointer (some ⟨B, 0, none⟩)]] w fun e w' => e = .returned (.bool true) ∧ Below w.heap.size w w' := by
 have hl : l.length = n := hA.1
 obtain ⟨o, ho, hp⟩ := hx
 have hn0 : 0 < n := by rw [← hl]; exact List.length_pos_of_mem ho
 obtain ⟨bb, off, rfl, hb, hr⟩ := hA.2 hn0
 have eg : ∀ args w, (callFunc 72 args).run Tryz.prog w = .ok (.enter 72 args) w := enters_of Tryz.func72 (by kernel_rfl) rfl
 have hcon := AnyQ.slices_ContainsFunc Tryz.l71 3 Tryz.isAgg136 Tryz.sizeOf136 owV (fun _ => rfl) (pOw call) 72 #[.pointer (some ⟨B, 0, none⟩)] eg bb off n c l w
  (pred72 call B w hB) (by omega) (by omega) hb (fun j hj i v hi => hr j (by omega) i v hi)
 rw [List.take_of_length_le (by omega)] at hcon
 refine hcon.mono fun e w' h => ⟨?_, h.2⟩
 rw [h.1, List.any_eq_true.2 ⟨o, ho, hp⟩]
end Go.Proofs.YtaebebpldkciiaaGreatDoor
