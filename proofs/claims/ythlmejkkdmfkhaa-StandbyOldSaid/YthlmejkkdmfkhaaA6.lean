/- Package standby: Deliver. -/
import Derived.Test.YthlmejkkdmfkhaaA5
namespace Go.Proofs.Ythlmejkkdmfkhaa
open Go.RowKit

def Pr.deliver (p : Pr) (k : Nat) : Pr := if k < p.ws.length then (p.take k).get p.ws[k]! else p
def Pr.deliverE (p : Pr) (k : Nat) : Int := if k < p.ws.length then 0 else 8

section
variable {g : Nat} {p : Pr} {vp vs vw : Value} {w : World}
/-- A pair in memory, a message beside it. -/
structure Mail (g B : Nat) (p : Pr) (vp vs vw : Value) (m1 m2 : Int) (m3 : Bool) (m4 : ByteArray) (W : World) : Prop where
  pa : PairAt g p vp vs vw W
  blk : W.heap[B]? = some (.cells #[.int .i64 m1, .int .i64 m2, .bool m3, .string m4] 46 (0, 0))
theorem Mail.drewN {B : Nat} {m1 m2 : Int} {m3 : Bool} {m4 : ByteArray} (h : Mail g B p vp vs vw m1 m2 m3 m4 w) (q : Nat) : Mail g B p vp vs vw m1 m2 m3 m4 (w.drewN q) := ⟨h.pa.drewN q, h.blk⟩

set_option maxRecDepth 100000 in
set_option maxHeartbeats 4000000 in
theorem Deliver_none (h : PairAt g p vp vs vw w) (k : Nat) (hn : p.ws.length ≤ 64) (hk : p.ws.length ≤ k) :
    Calls Try.prog 22 #[.pointer (some ⟨g, 0, none⟩), .int .i64 (k : Int)] w (Pp g (Own g vp vs vw) p (.returned (.int .i64 8)) w) := by
  have HH := Lib.hid h
  have ht := Lib.hid (take_no h k hk (by omega))
  clear h hk
  go_enter Try.func22, Try.ntmps22
  go_wp2_with (go_at_call 31; refine ht.out.mono ?_; rintro e w1 ⟨rfl, hb1⟩)
  go_ret
  have hp1 := HH.out.below hb1
  exact Pp.more (Pp.of hp1 (Ch.of_below hb1 (Nat.le_of_lt HH.out.lt))) ((Below.refl _ _).alloc (Nat.le_refl _) _) (Nat.le_of_lt hp1.lt)

set_option maxRecDepth 100000 in
set_option maxHeartbeats 4000000 in
theorem Deliver_old (h : PairAt g p vp vs vw w) (k : Nat) (hn : p.ws.length ≤ 64) (hk : k < p.ws.length) (hold : p.ws[k]!.term < p.term) :
    Calls Try.prog 22 #[.pointer (some ⟨g, 0, none⟩), .int .i64 (k : Int)] w (Pp g (Own g vp vs vw) (p.take k) (.returned (.int .i64 0)) w) := by
  have HH := Lib.hid h
  have ht := Lib.hid (take_yes h k hk (by omega))
  obtain ⟨m, hm⟩ : ∃ m, p.ws[k]! = m := ⟨_, rfl⟩
  rw [hm] at ht hold
  unfold msgOf at ht
  obtain ⟨m1, m2, m3, m4⟩ := m
  have hold : decide (m1 < p.term) = true := by simpa using hold
  clear h hk hm
  go_enter Try.func22, Try.ntmps22
  go_wp2_with (go_at_call 31; refine ht.out.mono ?_; rintro e w1 ⟨vp1, vs1, vw1, rfl, hp1, hc1⟩; have HP := Lib.hid (And.intro hp1 hc1); have hlt1 := hp1.lt; have c3 : w1.cell? ⟨g, 3, none⟩ = some (.int .i64 p.term) := hp1.cell 3; clear hp1 hc1)
  go_quiet (fail)
  go_wp2
  go_ret
  exact (Pp.of HP.out.1 HP.out.2).more (below_drewN ((Below.refl _ _).alloc (Nat.le_refl _) _) _) (Nat.le_of_lt HP.out.1.lt)

set_option maxRecDepth 100000 in
set_option maxHeartbeats 4000000 in
theorem Deliver_ack (h : PairAt g p vp vs vw w) (k : Nat) (hn : p.ws.length ≤ 64) (hk : k < p.ws.length) (hold : ¬ p.ws[k]!.term < p.term) (hack : p.ws[k]!.ack = true) :
    Calls Try.prog 22 #[.pointer (some ⟨g, 0, none⟩), .int .i64 (k : Int)] w (Pp g (Own g vp vs vw) ((p.take k).acked p.ws[k]!) (.returned (.int .i64 0)) w) := by
  have HH := Lib.hid h
  have ht := Lib.hid (take_yes h k hk (by omega))
  obtain ⟨m, hm⟩ : ∃ m, p.ws[k]! = m := ⟨_, rfl⟩
  rw [hm] at ht hold hack ⊢
  unfold msgOf at ht
  obtain ⟨m1, m2, m3, m4⟩ := m
  have hack : m3 = true := hack
  subst hack
  have hold : decide (m1 < p.term) = false := by simpa using hold
  clear h hk hm
  go_enter Try.func22, Try.ntmps22
  go_wp2_with (go_at_call 31; refine ht.out.mono ?_; rintro e w1 ⟨vp1, vs1, vw1, rfl, hp1, hc1⟩; have HP := Lib.hid (And.intro hp1 hc1); have hlt1 := hp1.lt; have hM := Mail.mk (hp1.below ((Below.refl _ w1).alloc (Nat.le_refl _) (.cells #[.int .i64 m1, .int .i64 m2, .bool true, .string m4] 46))) (heap_alloc_new w1 _); have HM := Lib.hid hM; have hbel : Below w1.heap.size w1 (w1.alloc (.cells #[.int .i64 m1, .int .i64 m2, .bool true, .string m4] 46)) := (Below.refl _ _).alloc (Nat.le_refl _) _; have HB := Lib.hid hbel; clear hp1 hc1 hM hbel)
  generalize w1.alloc (.cells #[.int .i64 m1, .int .i64 m2, .bool true, .string m4] 46) = W at *
  generalize hB : w1.heap.size = B at *
  have HBB := Lib.hid hB
  clear hB
  have c3 : W.cell? ⟨g, 3, none⟩ = some (.int .i64 p.term) := HM.out.pa.cell 3
  have c4 : W.cell? ⟨g, 4, none⟩ = some (.int .i64 p.done) := HM.out.pa.cell 4
  have c5 : W.cell? ⟨g, 5, none⟩ = some (.int .i64 p.ans) := HM.out.pa.cell 5
  have f4 := HM.out.pa.frozen 4
  have f5 := HM.out.pa.frozen 5
  have b0 : W.cell? ⟨B, 0, none⟩ = some (.int .i64 m1) := cell_of_row W B 0 _ 46 (0, 0) HM.out.blk
  have b1 : W.cell? ⟨B, 1, none⟩ = some (.int .i64 m2) := cell_of_row W B 1 _ 46 (0, 0) HM.out.blk
  have b2 : W.cell? ⟨B, 2, none⟩ = some (.bool true) := cell_of_row W B 2 _ 46 (0, 0) HM.out.blk
  have hne : g ≠ B := by omega
  go_quiet (fail)
  go_wp2
  have HM2 := Lib.hid (HM.out.drewN nq)
  have HB2 := Lib.hid (below_drewN HB.out nq)
  generalize W.drewN nq = W2 at *
  clear c3 c4 c5 f4 f5 b0 b1 b2
  have c4 : W2.cell? ⟨g, 4, none⟩ = some (.int .i64 p.done) := HM2.out.pa.cell 4
  have f4 := HM2.out.pa.frozen 4
  have b1 : W2.cell? ⟨B, 1, none⟩ = some (.int .i64 m2) := cell_of_row W2 B 1 _ 46 (0, 0) HM2.out.blk
  go_still_tail 10, (by kernel_rfl)
  change wpList _ _ _ _ _ W2.drew
  go_wp2_with fail
  all_goals first
    | (have HX : Hid (max p.done m2 = m2) := Lib.hid (Int.max_eq_right (Int.le_of_lt h))
       clear h
       have HM3 : Hid (PairAt g _ vp1 vs1 vw1 (W2.setCell ⟨g, 4, none⟩ (.int .i64 m2)).drew) := Lib.hid ((HM2.out.pa.setDone m2).drewN 1)
       have HC3 : Hid (Ch g _ _ W2 (W2.setCell ⟨g, 4, none⟩ (.int .i64 m2)).drew) := Lib.hid (Ch.drewN (ch_set g 4 vp1 vs1 vw1 W2 (.int .i64 m2)) 1)
       generalize (W2.setCell ⟨g, 4, none⟩ (.int .i64 m2)).drew = W3 at *
       clear c4 f4 b1
       have c4 : W3.cell? ⟨g, 4, none⟩ = some (.int .i64 m2) := HM3.out.cell 4
       have c5 : W3.cell? ⟨g, 5, none⟩ = some (.int .i64 p.ans) := HM3.out.cell 5
       have f5 := HM3.out.frozen 5
       go_still_tail 12, (by kernel_rfl)
       change wpList _ _ _ _ _ W3.drew
       go_wp2
       all_goals first
         | (have HY : Hid (max p.ans m2 = m2) := Lib.hid (Int.max_eq_right (Int.le_of_lt h))
            go_ret
            have q1 := HM3.out.setAns m2
            have q2 := (HP.out.2.trans (Ch.of_below (by rw [HBB.out]; exact HB2.out) (by have := HBB.out; omega))).trans (HC3.out.trans (Ch.drewN (ch_set g 5 vp1 vs1 vw1 W3 (.int .i64 m2)) 1))
            refine ⟨_, _, _, rfl, ?_, q2⟩
            have q3 := q1.drewN 1
            unfold Pr.acked
            change PairAt g { (p.take k) with done := max p.done m2, ans := max p.ans (max p.done m2) } _ _ _ _
            rw [HX.out, HY.out]
            exact q3)
         | (have HY : Hid (max p.ans m2 = p.ans) := Lib.hid (Int.max_eq_left h)
            go_ret
            have q1 := HM3.out.setAns p.ans
            have q2 := (HP.out.2.trans (Ch.of_below (by rw [HBB.out]; exact HB2.out) (by have := HBB.out; omega))).trans (HC3.out.trans (Ch.drewN (ch_set g 5 vp1 vs1 vw1 W3 (.int .i64 p.ans)) 1))
            refine ⟨_, _, _, rfl, ?_, q2⟩
            have q3 := q1.drewN 1
            unfold Pr.acked
            change PairAt g { (p.take k) with done := max p.done m2, ans := max p.ans (max p.done m2) } _ _ _ _
            rw [HX.out, HY.out]
            exact q3))
    | (have HX : Hid (max p.done m2 = p.done) := Lib.hid (Int.max_eq_left h)
       clear h
       have HM3 : Hid (PairAt g _ vp1 vs1 vw1 (W2.setCell ⟨g, 4, none⟩ (.int .i64 p.done)).drew) := Lib.hid ((HM2.out.pa.setDone p.done).drewN 1)
       have HC3 : Hid (Ch g _ _ W2 (W2.setCell ⟨g, 4, none⟩ (.int .i64 p.done)).drew) := Lib.hid (Ch.drewN (ch_set g 4 vp1 vs1 vw1 W2 (.int .i64 p.done)) 1)
       generalize (W2.setCell ⟨g, 4, none⟩ (.int .i64 p.done)).drew = W3 at *
       clear c4 f4 b1
       have c4 : W3.cell? ⟨g, 4, none⟩ = some (.int .i64 p.done) := HM3.out.cell 4
       have c5 : W3.cell? ⟨g, 5, none⟩ = some (.int .i64 p.ans) := HM3.out.cell 5
       have f5 := HM3.out.frozen 5
       go_still_tail 12, (by kernel_rfl)
       change wpList _ _ _ _ _ W3.drew
       go_wp2
       all_goals first
         | (have HY : Hid (max p.ans p.done = p.done) := Lib.hid (Int.max_eq_right (Int.le_of_lt h))
            go_ret
            have q1 := HM3.out.setAns p.done
            have q2 := (HP.out.2.trans (Ch.of_below (by rw [HBB.out]; exact HB2.out) (by have := HBB.out; omega))).trans (HC3.out.trans (Ch.drewN (ch_set g 5 vp1 vs1 vw1 W3 (.int .i64 p.done)) 1))
            refine ⟨_, _, _, rfl, ?_, q2⟩
            have q3 := q1.drewN 1
            unfold Pr.acked
            change PairAt g { (p.take k) with done := max p.done m2, ans := max p.ans (max p.done m2) } _ _ _ _
            rw [HX.out, HY.out]
            exact q3)
         | (have HY : Hid (max p.ans p.done = p.ans) := Lib.hid (Int.max_eq_left h)
            go_ret
            have q1 := HM3.out.setAns p.ans
            have q2 := (HP.out.2.trans (Ch.of_below (by rw [HBB.out]; exact HB2.out) (by have := HBB.out; omega))).trans (HC3.out.trans (Ch.drewN (ch_set g 5 vp1 vs1 vw1 W3 (.int .i64 p.ans)) 1))
            refine ⟨_, _, _, rfl, ?_, q2⟩
            have q3 := q1.drewN 1
            unfold Pr.acked
            change PairAt g { (p.take k) with done := max p.done m2, ans := max p.ans (max p.done m2) } _ _ _ _
            rw [HX.out, HY.out]
            exact q3))
end
end Go.Proofs.Ythlmejkkdmfkhaa
