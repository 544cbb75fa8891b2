/- Package label: the closures of free, slices.ContainsFunc, free. -/
import Derived.Test.YtpnihjomemojlaaB1
import Derived.Test.YtpnihjomemojlaaSh
namespace Go.Proofs.Ytpnihjomemojlaa
open Go.RowKit Go.Shelf Go.Proofs

set_option maxHeartbeats 1000000 in
theorem pred26 (b : Bx) (B : Nat) (w : World) (hB : B < w.heap.size) (hg : w.heap[B]? = some (.cells #[.int .i64 b.x, .int .i64 b.y, .int .i64 b.w, .int .i64 b.h] 23 (0, 0))) :
    PredBelow Try.prog 26 #[.pointer (some ⟨B, 0, none⟩)] (fun x => .agg (itV x).toArray) (fun x => meetW b (cell1 x)) w := fun W x hb => by
  have g0 := (hb.block B hB).trans hg
  have c0 := cell_of_row W B 0 _ 23 (0, 0) g0
  have c1 := cell_of_row W B 1 _ 23 (0, 0) g0
  have c2 := cell_of_row W B 2 _ 23 (0, 0) g0
  have c3 := cell_of_row W B 3 _ 23 (0, 0) g0
  have hBW : B < W.heap.size := Nat.lt_of_lt_of_le hB hb.size
  have hne : B ≠ W.heap.size := by omega
  have HM := Lib.hid (fun V => MeetW_any b (cell1 x) V)
  show Calls _ _ _ _ fun e w' => e = .returned (.bool (meetW b (cell1 x))) ∧ _
  obtain ⟨r, hr⟩ : ∃ r, meetW b (cell1 x) = r := ⟨_, rfl⟩
  rw [hr] at HM ⊢
  have HB := Lib.hid hb
  clear hr g0 hg hb
  obtain ⟨bx, bY, bw, bh⟩ := b
  obtain ⟨x1, x2, x3, x4⟩ := x
  dsimp only at c0 c1 c2 c3
  show Calls Try.prog 26 #[.agg #[.int .i64 x1, .int .i64 x2, .int .i64 x3, .int .i64 x4], .pointer (some ⟨B, 0, none⟩)] W _
  go_enter Try.func26, Try.ntmps26
  go_wp2_with (go_at_call 8; go_loud (refine (HM.out _).mono ?_; rintro e w' ⟨rfl, hb'⟩))
  go_ret
  exact ⟨rfl, (HB.out.alloc HB.out.size _).trans (hb'.mono (by simp; have := HB.out.size; omega))⟩

set_option maxHeartbeats 1000000 in
theorem pred28 (b : Bx) (B : Nat) (w : World) (hB : B < w.heap.size) (hg : w.heap[B]? = some (.cells #[.int .i64 b.x, .int .i64 b.y, .int .i64 b.w, .int .i64 b.h] 23 (0, 0))) :
    PredBelow Try.prog 28 #[.pointer (some ⟨B, 0, none⟩)] (fun x => .agg (bxV x).toArray) (fun x => meetW b x) w := fun W x hb => by
  have g0 := (hb.block B hB).trans hg
  have c0 := cell_of_row W B 0 _ 23 (0, 0) g0
  have c1 := cell_of_row W B 1 _ 23 (0, 0) g0
  have c2 := cell_of_row W B 2 _ 23 (0, 0) g0
  have c3 := cell_of_row W B 3 _ 23 (0, 0) g0
  have hBW : B < W.heap.size := Nat.lt_of_lt_of_le hB hb.size
  have hne : B ≠ W.heap.size := by omega
  have HM := Lib.hid (fun V => MeetW_any b x V)
  show Calls _ _ _ _ fun e w' => e = .returned (.bool (meetW b x)) ∧ _
  obtain ⟨r, hr⟩ : ∃ r, meetW b x = r := ⟨_, rfl⟩
  rw [hr] at HM ⊢
  have HB := Lib.hid hb
  clear hr g0 hg hb
  obtain ⟨bx, bY, bw, bh⟩ := b
  obtain ⟨x1, x2, x3, x4⟩ := x
  dsimp only at c0 c1 c2 c3
  show Calls Try.prog 28 #[.agg #[.int .i64 x1, .int .i64 x2, .int .i64 x3, .int .i64 x4], .pointer (some ⟨B, 0, none⟩)] W _
  go_enter Try.func28, Try.ntmps28
  go_wp2_with (go_at_call 8; go_loud (refine (HM.out _).mono ?_; rintro e w' ⟨rfl, hb'⟩))
  go_ret
  exact ⟨rfl, (HB.out.alloc HB.out.size _).trans (hb'.mono (by simp; have := HB.out.size; omega))⟩

set_option maxHeartbeats 1000000 in
theorem items_any (A : Option Addr) (n c : Nat) (l : List It) (b : Bx) (B : Nat) (w : World) (hA : Sl w w.heap.size 4 A n (fun i => itV l[i]!)) (hl : l.length = n) (hn : n ≤ 100) (hB : B < w.heap.size) (hg : w.heap[B]? = some (.cells #[.int .i64 b.x, .int .i64 b.y, .int .i64 b.w, .int .i64 b.h] 23 (0, 0))) :
    Calls Try.prog 23 #[.slice A n c, .func (.func 26) #[] #[.pointer (some ⟨B, 0, none⟩)]] w fun e w' => e = .returned (.bool (l.any fun x => meetW b (cell1 x))) ∧ Below w.heap.size w w' := by
  rcases Nat.eq_zero_or_pos n with rfl | hn0
  · obtain rfl := List.length_eq_zero_iff.1 hl
    have h0 : ∀ (a : Option Addr) (W : World), Calls Try.prog 29 #[.slice a 0 c, .func (.func 26) #[] #[.pointer (some ⟨B, 0, none⟩)]] W fun e w' => e = .returned (.int .i64 (-1)) ∧ w' = W := fun a W => by
      go_enter Try.func29, Try.ntmps29
      go_wp2
      go_loopw [5, 8] (fun _ i wr => i = .int .i64 0 ∧ wr = W) (fun _ _ _ => 1)
      case atStart => exact ⟨rfl, rfl⟩
      case round =>
        obtain ⟨rfl, rfl⟩ := hrel
        go_wp2
        go_ret
        exact ⟨rfl, rfl⟩
    have H0 := Lib.hid h0
    clear h0 hA hg hl
    go_enter Try.func23, Try.ntmps23
    go_wp2_with (go_at_call 29; go_loud (refine (H0.out _ _).mono ?_; rintro e w' ⟨rfl, rfl⟩))
    go_ret
    exact ⟨rfl, Below.refl _ _⟩
  · obtain ⟨bb, off, rfl, hb, hr⟩ := hA hn0
    have eg : ∀ args w, (callFunc 26 args).run Try.prog w = .ok (.enter 26 args) w := enters_of Try.func26 (by kernel_rfl) rfl
    have hcon := AnyQ.slices_ContainsFunc Try.l23 4 Try.isAgg31 Try.sizeOf31 itV (fun _ => rfl) (fun x => meetW b (cell1 x)) 26 #[.pointer (some ⟨B, 0, none⟩)] eg bb off n c l w
      (pred26 b B w hB hg) (by omega) (by omega) hb (fun j hj i v hi => hr j (by omega) i v hi)
    rw [List.take_of_length_le (by omega)] at hcon
    exact hcon

set_option maxHeartbeats 1000000 in
theorem boxes_any (A : Option Addr) (n c : Nat) (l : List Bx) (b : Bx) (B : Nat) (w : World) (hA : Sl w w.heap.size 4 A n (fun i => bxV l[i]!)) (hl : l.length = n) (hn : n ≤ 100) (hB : B < w.heap.size) (hg : w.heap[B]? = some (.cells #[.int .i64 b.x, .int .i64 b.y, .int .i64 b.w, .int .i64 b.h] 23 (0, 0))) :
    Calls Try.prog 27 #[.slice A n c, .func (.func 28) #[] #[.pointer (some ⟨B, 0, none⟩)]] w fun e w' => e = .returned (.bool (l.any fun x => meetW b x)) ∧ Below w.heap.size w w' := by
  rcases Nat.eq_zero_or_pos n with rfl | hn0
  · obtain rfl := List.length_eq_zero_iff.1 hl
    have h0 : ∀ (a : Option Addr) (W : World), Calls Try.prog 30 #[.slice a 0 c, .func (.func 28) #[] #[.pointer (some ⟨B, 0, none⟩)]] W fun e w' => e = .returned (.int .i64 (-1)) ∧ w' = W := fun a W => by
      go_enter Try.func30, Try.ntmps30
      go_wp2
      go_loopw [5, 8] (fun _ i wr => i = .int .i64 0 ∧ wr = W) (fun _ _ _ => 1)
      case atStart => exact ⟨rfl, rfl⟩
      case round =>
        obtain ⟨rfl, rfl⟩ := hrel
        go_wp2
        go_ret
        exact ⟨rfl, rfl⟩
    have H0 := Lib.hid h0
    clear h0 hA hg hl
    go_enter Try.func27, Try.ntmps27
    go_wp2_with (go_at_call 30; go_loud (refine (H0.out _ _).mono ?_; rintro e w' ⟨rfl, rfl⟩))
    go_ret
    exact ⟨rfl, Below.refl _ _⟩
  · obtain ⟨bb, off, rfl, hb, hr⟩ := hA hn0
    have eg : ∀ args w, (callFunc 28 args).run Try.prog w = .ok (.enter 28 args) w := enters_of Try.func28 (by kernel_rfl) rfl
    have hcon := AnyQ.slices_ContainsFunc Try.l27 4 Try.isAgg23 Try.sizeOf23 bxV (fun _ => rfl) (fun x => meetW b x) 28 #[.pointer (some ⟨B, 0, none⟩)] eg bb off n c l w
      (pred28 b B w hB hg) (by omega) (by omega) hb (fun j hj i v hi => hr j (by omega) i v hi)
    rw [List.take_of_length_le (by omega)] at hcon
    exact hcon

def freeB (l : List It) (u : List Bx) (b : Bx) : Bool := !(l.any fun x => meetW b (cell1 x)) && !(u.any fun x => meetW b x)

set_option maxHeartbeats 1000000 in
theorem free_any (A B : Option Addr) (n p c d : Nat) (l : List It) (u : List Bx) (b : Bx) (w : World) (hA : Sl w w.heap.size 4 A n (fun i => itV l[i]!)) (hB : Sl w w.heap.size 4 B p (fun i => bxV u[i]!)) (hl : l.length = n) (hu : u.length = p) (hn : n ≤ 100) (hp : p ≤ 100) :
    Calls Try.prog 21 #[.slice A n c, .slice B p d, .agg #[.int .i64 b.x, .int .i64 b.y, .int .i64 b.w, .int .i64 b.h]] w fun e w' => e = .returned (.bool (freeB l u b)) ∧ Below w.heap.size w w' := by
  obtain ⟨W0, hW0⟩ : ∃ W0, w.alloc (.cells #[.int .i64 b.x, .int .i64 b.y, .int .i64 b.w, .int .i64 b.h] 23) = W0 := ⟨_, rfl⟩
  have hg : W0.heap[w.heap.size]? = some (.cells #[.int .i64 b.x, .int .i64 b.y, .int .i64 b.w, .int .i64 b.h] 23 (0, 0)) := by rw [← hW0]; exact heap_alloc_new w _
  have hb0 : Below w.heap.size w W0 := by rw [← hW0]; exact (Below.refl _ w).alloc (Nat.le_refl _) _
  have hlt : w.heap.size < W0.heap.size := (Array.getElem?_eq_some_iff.1 hg).1
  have H1 := Lib.hid (items_any A n c l b w.heap.size W0 ((hA.below hb0).more hb0.size) hl hn hlt hg)
  have H2 := Lib.hid (fun (W : World) (hW : Below W0.heap.size W0 W) => boxes_any B p d u b w.heap.size W (((hB.below hb0).more hb0.size).below hW |>.more hW.size) hu hp (Nat.lt_of_lt_of_le hlt hW.size) ((hW.block _ hlt).trans hg))
  have HF : Hid (freeB l u b = (!(l.any fun x => meetW b (cell1 x)) && !(u.any fun x => meetW b x))) := Lib.hid rfl
  generalize (l.any fun x => meetW b (cell1 x)) = r1 at *
  generalize (u.any fun x => meetW b x) = r2 at *
  generalize freeB l u b = r at *
  have HB0 := Lib.hid hb0
  clear hA hB hl hu hb0 hg
  cases r1 with
  | true =>
    go_enter Try.func21, Try.ntmps21
    go_wp2_with (go_at_call 23; go_loud (refine H1.out.mono ?_; rintro e w1 ⟨rfl, hb1⟩))
    go_ret
    exact ⟨by rw [HF.out]; rfl, HB0.out.trans (hb1.mono HB0.out.size)⟩
  | false =>
    go_enter Try.func21, Try.ntmps21
    go_wp2_with (first
      | (go_at_call 23; go_loud (refine H1.out.mono ?_; rintro e w1 ⟨rfl, hb1⟩))
      | (go_at_call 27; go_loud (refine (H2.out _ hb1).mono ?_; rintro e w2 ⟨rfl, hb2⟩)))
    go_ret
    exact ⟨by rw [HF.out]; rfl, HB0.out.trans ((hb1.trans (hb2.mono hb1.size)).mono HB0.out.size)⟩
end Go.Proofs.Ytpnihjomemojlaa
