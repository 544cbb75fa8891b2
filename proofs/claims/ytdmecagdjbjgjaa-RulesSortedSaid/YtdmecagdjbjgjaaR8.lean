/- Packages probe and rules: CheckSep, wrong, Near. -/
import Derived.Test.YtdmecagdjbjgjaaR1
namespace Go.Proofs.Ytdmecagdjbjgjaa
open Go.RowKit

def sepE (a b : Int) : Int := if 0 ≤ a ∧ a ≤ 1000000 ∧ 0 ≤ b ∧ b ≤ 60000 then 0 else 4
set_option maxRecDepth 100000 in
set_option maxHeartbeats 8000000 in
theorem CheckSep_any (a b : Int) (w : World) : Calls Try.prog 21 #[.agg #[.int .i64 a, .int .i64 b]] w fun E w' => E = .returned (.int .i64 (sepE a b)) ∧ Below w.heap.size w w' := by
  have HE : Hid (sepE a b = if 0 ≤ a ∧ a ≤ 1000000 ∧ 0 ≤ b ∧ b ≤ 60000 then 0 else 4) := Lib.hid rfl
  generalize sepE a b = r at *
  go_enter Try.func21, Try.ntmps21
  go_wp2
  all_goals
    go_ret
    refine ⟨?_, (Below.refl _ w).alloc (Nat.le_refl _) _⟩
    rw [HE.out]
    split
    all_goals first
      | rfl
      | (exfalso; omega)

theorem wrong_any (n : Int) (w : World) : Calls Try.prog 20 #[.int .i64 n] w fun E w' => E = .returned (.bool (decide (n < 0) || decide (9 < n))) ∧ w = w' := by
  go_enter Try.func20, Try.ntmps20
  go_wp2
  all_goals
    go_ret
    first
      | (refine ⟨?_, rfl⟩; simp [*]; done)
      | (refine ⟨?_, rfl⟩; congr 2; simp; omega)

set_option maxRecDepth 100000 in
set_option maxHeartbeats 8000000 in
theorem Near_any (a b : Int) (w : World) (ha : 0 ≤ a ∧ a ≤ 1000000) (hb : 0 ≤ b ∧ b ≤ 60000) : Calls Try.prog 8 #[.agg #[.int .i64 a, .int .i64 b], .int .i64 5] w fun E w' => E = .returned (.tuple #[.iface 71 (.agg #[.string ⟨#[110, 101, 97, 114]⟩, .int .i64 5, .int .i64 a, .int .i64 b]), .int .i64 0]) ∧ Below w.heap.size w w' := by
  have HC := Lib.hid (fun W => CheckSep_any a b W)
  have hz : sepE a b = 0 := if_pos ⟨ha.1, ha.2, hb.1, hb.2⟩
  rw [hz] at HC
  have HW := Lib.hid (fun W => wrong_any 5 W)
  rw [show (decide ((5 : Int) < 0) || decide ((9 : Int) < 5)) = false by decide] at HW
  clear ha hb hz
  obtain ⟨w1, hw1⟩ : ∃ W, w.alloc (.cells #[.int .i64 a, .int .i64 b] 27) = W := ⟨_, rfl⟩
  have hb1 : Below w.heap.size w w1 := by rw [← hw1]; exact (Below.refl _ _).alloc (Nat.le_refl _) _
  have hy : w1.heap[w.heap.size]? = some (.cells #[.int .i64 a, .int .i64 b] 27 (0, 0)) := by rw [← hw1]; exact heap_alloc_new _ _
  have hl : w.heap.size < w1.heap.size := by rw [← hw1]; simp
  have c0 : w1.cell? ⟨w.heap.size, 0, none⟩ = some (.int .i64 a) := cell_of_row w1 _ 0 _ 27 (0, 0) hy
  have c1 : w1.cell? ⟨w.heap.size, 1, none⟩ = some (.int .i64 b) := cell_of_row w1 _ 1 _ 27 (0, 0) hy
  have HB1 := Lib.hid hb1
  clear hb1 hy
  obtain ⟨g, hg⟩ : ∃ g, w.heap.size = g := ⟨_, rfl⟩
  have HG := Lib.hid hg
  rw [hg] at c0 c1 hl
  go_enter Try.func8, Try.ntmps8
  go_wp2_with (first
    | (go_at_call 20; go_loud (refine (HW.out _).mono ?_; rintro E w2 ⟨rfl, rfl⟩))
    | (go_at_call 21; go_loud (refine (HC.out _).mono ?_; rintro E w2 ⟨rfl, hb2⟩; have d0 := (hb2.cell (p := ⟨g, 0, none⟩) hl).trans c0; have d1 := (hb2.cell (p := ⟨g, 1, none⟩) hl).trans c1; have HB2 := Lib.hid (HB1.out.trans (hb2.mono HB1.out.size)); clear hb2)))
  all_goals
    go_ret2
    exact ⟨rfl, HB2.out⟩

/-- named.alert. -/
theorem alert_any (t : ByteArray) (l a b : Int) (w : World) : Calls Try.prog 107 #[.agg #[.string t, .int .i64 l], .int .i64 a, .int .i64 b] w fun E w' => E = .returned (.agg #[.string t, .int .i64 l, .int .i64 a, .int .i64 b]) ∧ Below w.heap.size w w' := by
  go_enter Try.func107, Try.ntmps107
  go_wp2
  refine bodyPost_ret (v := .agg #[.string t, .int .i64 l, .int .i64 a, .int .i64 b]) (by simp [results, Try.results107, go_sem]) rfl ⟨rfl, ?_⟩
  first
    | exact ((Below.refl _ w).alloc (Nat.le_refl _) _).alloc (by simp) _
    | (trace_state; fail)
end Go.Proofs.Ytdmecagdjbjgjaa
