/- rules.Check's closure, and slices.ContainsFunc of tracks with it. -/
import Derived.Test.YtdmecagdjbjgjaaR13
import Derived.Test.YtdmecagdjbjgjaaSh
namespace Go.Proofs.Ytdmecagdjbjgjaa
open Go.RowKit Go.Shelf Go.Proofs

set_option maxRecDepth 100000 in
set_option maxHeartbeats 4000000 in
theorem pred25 (t : Tr) (B : Nat) (w : World) (hB : B < w.heap.size) (hg : w.heap[B]? = some (.cells (trL t).toArray 41 (0, 0))) :
    PredBelow Try.prog 25 #[.pointer (some ⟨B, 0, none⟩)] (fun x => .agg (trL x).toArray) (fun x => x.id == t.id) w := fun W x hb => by
  have g0 := (hb.block B hB).trans hg
  have c0 : W.cell? ⟨B, 0, none⟩ = some (.int .i64 t.id) := cell_of_row W B 0 _ 41 (0, 0) g0
  have hBW : B < W.heap.size := Nat.lt_of_lt_of_le hB hb.size
  have hne : B ≠ W.heap.size := by omega
  show Calls _ _ _ _ fun e w' => e = .returned (.bool (x.id == t.id)) ∧ _
  have HR : Hid ((x.id == t.id) = decide (x.id = t.id)) := Lib.hid (by by_cases h : x.id = t.id <;> simp [h])
  generalize (x.id == t.id) = r at *
  have HB := Lib.hid hb
  generalize t.id = i at *
  clear g0 hg hb
  obtain ⟨x1, x2, x3, x4, x5, x6, x7, x8, x9, x10, x11, x12, x13⟩ := x
  dsimp only at HR
  show Calls Try.prog 25 #[.agg #[.int .i64 x1, .int .i64 x2, .int .i64 x3, .int .i64 x4, .int .i64 x5, .int .i64 x6, .int .i64 x7, .int .i64 x8, .int .i64 x9, .int .i64 x10, .int .i64 x11, .int .i64 x12, .int .i64 x13], .pointer (some ⟨B, 0, none⟩)] W _
  go_enter Try.func25, Try.ntmps25
  go_wp2
  go_ret
  refine ⟨?_, HB.out.alloc HB.out.size _⟩
  rw [HR.out]
  first | rfl | (simp; done) | (trace_state; fail)

def dupB (T : Nat → Tr) (k : Nat) (i : Int) : Bool := (List.range k).any fun j => (T j).id == i

set_option maxHeartbeats 4000000 in
theorem tracks_any (A : Option Addr) (k c : Nat) (T : Nat → Tr) (t : Tr) (B : Nat) (w : World) (hA : Sl w w.heap.size 13 A k (fun i => trL (T i))) (hn : k ≤ 100) (hB : B < w.heap.size) (hg : w.heap[B]? = some (.cells (trL t).toArray 41 (0, 0))) :
    Calls Try.prog 24 #[.slice A k c, .func (.func 25) #[] #[.pointer (some ⟨B, 0, none⟩)]] w fun e w' => e = .returned (.bool (dupB T k t.id)) ∧ Below w.heap.size w w' := by
  rcases Nat.eq_zero_or_pos k with rfl | hn0
  · have h0 : ∀ (a : Option Addr) (W : World), Calls Try.prog 42 #[.slice a 0 c, .func (.func 25) #[] #[.pointer (some ⟨B, 0, none⟩)]] W fun e w' => e = .returned (.int .i64 (-1)) ∧ w' = W := fun a W => by
      go_enter Try.func42, Try.ntmps42
      go_wp2
      go_loopw [5, 8] (fun _ i wr => i = .int .i64 0 ∧ wr = W) (fun _ _ _ => 1)
      case atStart => exact ⟨rfl, rfl⟩
      case round =>
        obtain ⟨rfl, rfl⟩ := hrel
        go_wp2
        go_ret
        exact ⟨rfl, rfl⟩
    have H0 := Lib.hid h0
    clear h0 hA hg
    go_enter Try.func24, Try.ntmps24
    go_wp2_with (go_at_call 42; go_loud (refine (H0.out _ _).mono ?_; rintro e w' ⟨rfl, rfl⟩))
    go_ret
    exact ⟨rfl, Below.refl _ _⟩
  · obtain ⟨bb, off, rfl, hb, hr⟩ := hA hn0
    have eg : ∀ args w, (callFunc 25 args).run Try.prog w = .ok (.enter 25 args) w := enters_of Try.func25 (by kernel_rfl) rfl
    have hcon := AnyQ.slices_ContainsFunc Try.l24 13 Try.isAgg41 Try.sizeOf41 trL (fun _ => rfl) (fun x => x.id == t.id) 25 #[.pointer (some ⟨B, 0, none⟩)] eg bb off k c ((List.range k).map T) w
      (pred25 t B w hB hg) (by simp) (by omega) hb (fun j hj i v hi => hr j (by simpa using hj) i v (by simpa [show j < k from by simpa using hj] using hi))
    rw [List.take_of_length_le (by simp)] at hcon
    rw [List.any_map] at hcon
    exact hcon
end Go.Proofs.Ytdmecagdjbjgjaa
