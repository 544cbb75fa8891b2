/- Alerts compared and looked for. -/
import Derived.Test.YtdmecagdjbjgjaaR16
import Derived.Test.YtdmecagdjbjgjaaStr
namespace Go.Proofs.Ytdmecagdjbjgjaa
open Go.RowKit

set_option maxRecDepth 100000 in
theorem run_eqA (x y : Al) (w : World) : (Op.equalIn 10000 51 (.agg #[.string x.r, .int .i64 x.l, .int .i64 x.a, .int .i64 x.b]) (.agg #[.string y.r, .int .i64 y.l, .int .i64 y.a, .int .i64 y.b])).run Try.prog w = .ok (decide (x = y)) w := by
  have u9 := Try.underlying9
  have a9 := Try.isAgg9
  have z9 := Try.sizeOf9
  have u3 := Try.underlying3
  have a3 := Try.isAgg3
  have z3 := Try.sizeOf3
  have hS : Try.prog.underlying 51 = some (.struct (Try.prog.fieldsOf 51)) := by kernel_rfl
  have hp : Try.prog.stoodInHeld 51 = false := by kernel_rfl
  obtain ⟨n, t, k, z⟩ := x
  obtain ⟨n', t', k', z'⟩ := y
  rw [show (10000 : Nat) = 9999 + 1 from rfl, run_equalIn_agg w 9999 51 _ _ hS hp]
  simp only [Program.fieldsOf, Try.underlying51]
  go_simp
  have hb : (n.toList = n'.toList) ↔ n = n' := ⟨fun h => ba_ext h, fun h => by rw [h]⟩
  by_cases h1 : n = n' <;> by_cases h2 : t = t' <;> by_cases h3 : k = k' <;> by_cases h4 : z = z' <;> simp [h1, h2, h3, h4, hb]

set_option maxRecDepth 100000 in
set_option maxHeartbeats 4000000 in
theorem Index_any (V : Option Addr) (m cv : Nat) (L : List Al) (x : Al) (w : World) (hS : Sl w w.heap.size 4 V m (fun i => alL L[i]!)) (hL : L.length = m) (hm : m ≤ 100000) :
    Calls Try.prog 29 #[.slice V m cv, .agg #[.string x.r, .int .i64 x.l, .int .i64 x.a, .int .i64 x.b]] w fun e w' => (∃ i : Int, e = .returned (.int .i64 i) ∧ (0 ≤ i ↔ x ∈ L)) ∧ Below w.heap.size w w' := by
  have HS := Lib.hid hS
  have HL := Lib.hid hL
  have HQ := Lib.hid (fun y W => run_eqA x y W)
  have hb0 : Below w.heap.size w (w.alloc (.cells #[.string x.r, .int .i64 x.l, .int .i64 x.a, .int .i64 x.b] 51)) := (Below.refl _ w).alloc (Nat.le_refl _) _
  obtain ⟨wb, hwb⟩ : ∃ W, w.alloc (.cells #[.string x.r, .int .i64 x.l, .int .i64 x.a, .int .i64 x.b] 51) = W := ⟨_, rfl⟩
  rw [hwb] at hb0
  have hyb : wb.heap[w.heap.size]? = some (.cells #[.string x.r, .int .i64 x.l, .int .i64 x.a, .int .i64 x.b] 51 (0, 0)) := by rw [← hwb]; exact heap_alloc_new _ _
  have HSb := Lib.hid ((hS.below hb0).more hb0.size)
  have HB0 := Lib.hid hb0
  have hlb : w.heap.size < wb.heap.size := by rw [← hwb]; simp
  clear hS hL hb0
  obtain ⟨x1, x2, x3, x4⟩ := x
  dsimp only at hwb hyb HQ ⊢
  have c0 := cell_of_row wb _ 0 _ 51 (0, 0) hyb
  have c1 := cell_of_row wb _ 1 _ 51 (0, 0) hyb
  have c2 := cell_of_row wb _ 2 _ 51 (0, 0) hyb
  have c3 := cell_of_row wb _ 3 _ 51 (0, 0) hyb
  simp only [List.getElem?_toArray, List.getElem?_cons_zero, List.getElem?_cons_succ] at c0 c1 c2 c3
  have HYB := Lib.hid hyb
  clear hyb
  obtain ⟨g, hg⟩ : ∃ g, w.heap.size = g := ⟨_, rfl⟩
  have HG := Lib.hid hg
  rw [hg] at c0 c1 c2 c3 hlb HYB
  have hm0 : (0 : Int) ≤ (m : Int) := by omega
  go_enter Try.func29, Try.ntmps29
  go_wp2
  go_loopw [5, 8] (fun _ i wr => ∃ j : Nat, j ≤ m ∧ i = .int .i64 (j : Int) ∧ Hid (∀ q, q < j → (⟨x1, x2, x3, x4⟩ : Al) ≠ L[q]!) ∧ ∃ q, wr = wb.drewN q) (fun _ i _ => m - (intOf i).toNat)
  case atStart => exact ⟨0, by omega, rfl, Lib.hid (fun q hq => by omega), 0, rfl⟩
  case round =>
    obtain ⟨j, hj, rfl, HN, q, rfl⟩ := hrel
    by_cases hlt : j < m
    · obtain ⟨bb, off, rfl, hbb, hr⟩ := HSb.out (by omega)
      have hcs : ∀ i v, (alL L[j]!)[i]? = some v → wb.cell? ⟨bb, off + j * 4 + i, none⟩ = some v := fun i v hv => hr j hlt i v hv
      have HQj := Lib.hid (fun W => HQ.out L[j]! W)
      have HMj : Hid ((⟨x1, x2, x3, x4⟩ : Al) = L[j]! → (⟨x1, x2, x3, x4⟩ : Al) ∈ L) := Lib.hid (fun h => by rw [h, getElem!_pos L j (by rw [HL.out]; exact hlt)]; exact List.getElem_mem _)
      have HNj : Hid ((⟨x1, x2, x3, x4⟩ : Al) ≠ L[j]! → ∀ q, q < j + 1 → (⟨x1, x2, x3, x4⟩ : Al) ≠ L[q]!) := Lib.hid (fun h q hq => by
        rcases Nat.lt_or_ge q j with h2 | h2
        · exact HN.out q h2
        · obtain rfl : q = j := by omega
          exact h)
      generalize L[j]! = y at *
      obtain ⟨y1, y2, y3, y4⟩ := y
      have d0 : wb.cell? ⟨bb, off + j * 4, none⟩ = some (.string y1) := hcs 0 _ rfl
      have d1 : wb.cell? ⟨bb, off + j * 4 + 1, none⟩ = some (.int .i64 y2) := hcs 1 _ rfl
      have d2 : wb.cell? ⟨bb, off + j * 4 + 2, none⟩ = some (.int .i64 y3) := hcs 2 _ rfl
      have d3 : wb.cell? ⟨bb, off + j * 4 + 3, none⟩ = some (.int .i64 y4) := hcs 3 _ rfl
      have hbe := HQj.out
      dsimp only at hbe
      have l1 : (j : Int) < (m : Int) := by omega
      have l0 : (0 : Int) ≤ (j : Int) := by omega
      have hwj : IntKind.i64.wrap ((j : Int) + 1) = (j : Int) + 1 := IntWalk.i64_in _ (by omega)
      clear hcs hr
      by_cases he : (⟨x1, x2, x3, x4⟩ : Al) = ⟨y1, y2, y3, y4⟩
      · rw [decide_eq_true he] at hbe
        have HM := Lib.hid (HMj.out he)
        clear he
        go_wp2
        go_quiet (fail)
        go_wp2
        go_ret
        refine ⟨⟨j, rfl, ⟨fun _ => HM.out, fun _ => by omega⟩⟩, ?_⟩
        first | exact below_drewN (below_drewN HB0.out _) _ | (rw [← HG.out]; exact below_drewN (below_drewN HB0.out _) _)
      · rw [decide_eq_false he] at hbe
        have HN2 := HNj.out he
        have HN3 := Lib.hid HN2
        clear he HN2
        go_wp2
        go_quiet (fail)
        go_wp2
        go_roundw
        case rel => exact ⟨j + 1, by omega, by go_num, HN3, _, rfl⟩
        case measure => simp [intOf]; omega
    · obtain rfl : m = j := by omega
      go_wp2
      go_ret
      refine ⟨⟨-1, rfl, ⟨fun h => by omega, fun h => ?_⟩⟩, ?_⟩
      · obtain ⟨i, hi, he⟩ := List.getElem_of_mem h
        have := HN.out i (by rw [← HL.out]; exact hi)
        rw [getElem!_pos L i hi, he] at this
        exact absurd rfl this
      · first | exact below_drewN HB0.out _ | (rw [← HG.out]; exact below_drewN HB0.out _)

set_option maxHeartbeats 4000000 in
theorem Contains_any (V : Option Addr) (m cv : Nat) (L : List Al) (x : Al) (w : World) (hS : Sl w w.heap.size 4 V m (fun i => alL L[i]!)) (hL : L.length = m) (hm : m ≤ 100000) :
    Calls Try.prog 13 #[.slice V m cv, .agg #[.string x.r, .int .i64 x.l, .int .i64 x.a, .int .i64 x.b]] w fun e w' => e = .returned (.bool (decide (x ∈ L))) ∧ Below w.heap.size w w' := by
  have hb0 : Below w.heap.size w (w.alloc (.cells #[.string x.r, .int .i64 x.l, .int .i64 x.a, .int .i64 x.b] 51)) := (Below.refl _ w).alloc (Nat.le_refl _) _
  have HI := Lib.hid (Index_any V m cv L x _ ((hS.below hb0).more hb0.size) hL hm)
  have HB := Lib.hid hb0
  clear hS hb0
  have HR : Hid (∀ i : Int, (0 ≤ i ↔ x ∈ L) → decide (0 ≤ i) = decide (x ∈ L)) := Lib.hid (fun i h => decide_eq_decide.2 h)
  generalize decide (x ∈ L) = r at *
  go_enter Try.func13, Try.ntmps13
  go_wp2_with (go_at_call 29; go_loud (refine HI.out.mono ?_; rintro E w2 ⟨⟨i, rfl, hi⟩, hb2⟩; have hri := HR.out i hi; have HB2 := Lib.hid (HB.out.trans (hb2.mono HB.out.size)); clear hb2 hi))
  all_goals
    go_ret
    refine ⟨?_, HB2.out⟩
    first | rfl | (simp_all; done) | (trace_state; fail)
end Go.Proofs.Ytdmecagdjbjgjaa
