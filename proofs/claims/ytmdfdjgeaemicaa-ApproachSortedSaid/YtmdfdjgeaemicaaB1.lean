/- The walk of ApproachGaps. -/
import Derived.Test.YtmdfdjgeaemicaaA4
import Derived.Test.YtmdfdjgeaemicaaRow
namespace Go.Proofs.Ytmdfdjgeaemicaa
open Go.RowKit

theorem nextT_ge {g : Nat → Int} {wk : Nat → Int} {od : Nat → Nat} {ts : Nat → Int} {r w : Int} : ∀ m, r ≤ nextT g wk od ts r w m ∧ ∀ k, k < m → ts k + g ((wk (od k)).toNat * 4 + w.toNat) ≤ nextT g wk od ts r w m
  | 0 => ⟨Int.le_refl _, fun k hk => absurd hk (by omega)⟩
  | m + 1 => by
    have ih := nextT_ge (g := g) (wk := wk) (od := od) (ts := ts) (r := r) (w := w) m
    refine ⟨?_, fun k hk => ?_⟩
    · simp only [nextT]; omega
    · simp only [nextT]
      by_cases e : k = m
      · subst e; omega
      · have := ih.2 k (by omega); omega

theorem nextT_at {g : Nat → Int} {wk : Nat → Int} {od : Nat → Nat} {ts : Nat → Int} {r w : Int} : ∀ m, nextT g wk od ts r w m = r ∨ ∃ k, k < m ∧ nextT g wk od ts r w m = ts k + g ((wk (od k)).toNat * 4 + w.toNat)
  | 0 => .inl rfl
  | m + 1 => by
    have ih := nextT_at (g := g) (wk := wk) (od := od) (ts := ts) (r := r) (w := w) m
    simp only [nextT]
    rcases Int.le_total (nextT g wk od ts r w m) (ts m + g ((wk (od m)).toNat * 4 + w.toNat)) with h | h
    · rw [Int.max_eq_right h]; exact .inr ⟨m, by omega, rfl⟩
    · rw [Int.max_eq_left h]
      rcases ih with ih | ⟨k, hk, ih⟩
      · exact .inl ih
      · exact .inr ⟨k, by omega, ih⟩

def tight (g : Nat → Int) (its : Nat → It) (i k : Nat) : Bool :=
  decide (tT g its i = (its i).rd) || (List.range k).any fun j => decide (tT g its i = tT g its j + g ((its j).wk.toNat * 4 + (its i).wk.toNat))

theorem tight_zero {g : Nat → Int} {its : Nat → It} {i : Nat} : tight g its i 0 = (tT g its i == (its i).rd) := by
  simp [tight]
  rfl
theorem tight_succ {g : Nat → Int} {its : Nat → It} {i k : Nat} : tight g its i (k + 1) = (tight g its i k || (tT g its i == tT g its k + g ((its k).wk.toNat * 4 + (its i).wk.toNat))) := by
  simp [tight, List.range_succ, Bool.or_assoc]
  rfl
theorem tight_all {g : Nat → Int} {its : Nat → It} (i : Nat) : tight g its i i = true := by
  have h := nextT_at (g := g) (wk := fun k => (its k).wk) (od := id) (ts := tT g its) (r := (its i).rd) (w := (its i).wk) i
  rw [← tT_eq] at h
  unfold tight
  rw [Bool.or_eq_true]
  rcases h with h | ⟨k, hk, h⟩
  · exact .inl (decide_eq_true h)
  · exact .inr (List.any_eq_true.2 ⟨k, List.mem_range.2 hk, decide_eq_true h⟩)

theorem tT_gap {g : Nat → Int} {its : Nat → It} {i k : Nat} (hk : k < i) : tT g its k + g ((its k).wk.toNat * 4 + (its i).wk.toNat) ≤ tT g its i := by
  have h := (nextT_ge (g := g) (wk := fun k => (its k).wk) (od := id) (ts := tT g its) (r := (its i).rd) (w := (its i).wk) i).2 k hk
  rw [← tT_eq] at h
  exact h
theorem tT_ready {g : Nat → Int} {its : Nat → It} {i : Nat} : (its i).rd ≤ tT g its i := by
  have h := (nextT_ge (g := g) (wk := fun k => (its k).wk) (od := id) (ts := tT g its) (r := (its i).rd) (w := (its i).wk) i).1
  rw [← tT_eq] at h
  exact h

set_option maxRecDepth 100000 in
set_option maxHeartbeats 1000000 in
theorem Gaps_bad (A : Option Addr) (n c : Nat) (its : Nat → It) (G : Array Value) (g : Nat → Int) (w : World) (hA : Sl w w.heap.size 4 A n (fun i => (its i).row)) (hn : n ≤ maxLen) (hG : Gaps G g)
    (hc : checkCode n its g ≠ 0) :
    Calls Try.prog 3 #[.slice A n c, .agg G] w fun e w' => e = .returned (.bool true) ∧ Below w.heap.size w w' := by
  have HS := Lib.hid hG.1
  have hb0 : Below w.heap.size w (w.alloc (.cells G 24)) := (Below.refl _ _).alloc (Nat.le_refl _) _
  have hA1 := (hA.below hb0).more hb0.size
  have hne : (checkCode n its g != 0) = true := by rw [bne_iff_ne]; exact hc
  have hne2 : (checkCode n its g == 0) = false := beq_eq_false_iff_ne.2 hc
  go_enter Try.func3, Try.ntmps3
  go_wp2_with (first
    | (refine wpList_load_row rfl 24 _ rfl w.heap.size rfl 24 G (0, 0) _ (heap_alloc_new w _) Try.underlying24 rfl (by rw [HS.out]; kernel_rfl) ?_)
    | (go_at_call 8; refine (Times_bad A n c its G g _ hA1 hn hG hc).mono ?_; rintro e w1 ⟨rfl, hb1⟩)
    | (go_at_call 9; refine (fact_any _).mono ?_; rintro e w2 ⟨rfl, hb2⟩
       have hb02 := hb1.trans (hb2.mono hb1.size)
       have hbx : w2.heap[w.heap.size]? = some (.cells G 24 (0, 0)) := (hb02.block _ (by simp)).trans (heap_alloc_new w _)
       have hA2 := (hA1.below hb02).more hb02.size)
    | (refine wpList_load_row_w 24 _ rfl w.heap.size rfl rfl 24 G (0, 0) _ hbx Try.underlying24 rfl (by rw [HS.out]; kernel_rfl) ?_)
    | (go_at_call 10; refine (Check_any A n c its G g _ hA2 hn hG).mono ?_; rintro e w3 ⟨rfl, hb3⟩))
  go_ret
  exact ⟨rfl, hb0.trans ((hb02.trans (hb3.mono hb02.size)).mono hb0.size)⟩
end Go.Proofs.Ytmdfdjgeaemicaa
