/- The walk of ApproachGaps for valid arrivals. -/
import Derived.Test.YtmdfdjgeaemicaaB1
namespace Go.Proofs.Ytmdfdjgeaemicaa
open Go.RowKit

theorem tight_true {g : Nat → Int} {its : Nat → It} {i k : Nat} (h : Hid (true = tight g its i k)) : Hid (true = tight g its i (k + 1)) := by
  show _ = _
  rw [tight_succ, ← h.out, Bool.true_or]
theorem tight_false {g : Nat → Int} {its : Nat → It} {i k : Nat} (h : Hid (false = tight g its i k)) : Hid ((tT g its i == tT g its k + g ((its k).wk.toNat * 4 + (its i).wk.toNat)) = tight g its i (k + 1)) := by
  show _ = _
  rw [tight_succ, ← h.out, Bool.false_or]

set_option maxRecDepth 100000 in
set_option maxHeartbeats 3000000 in
theorem Gaps_ok (A : Option Addr) (n c : Nat) (its : Nat → It) (G : Array Value) (g : Nat → Int) (w : World) (hA : Sl w w.heap.size 4 A n (fun i => (its i).row)) (hn : n ≤ maxLen) (hnc : n ≤ c) (hG : Gaps G g)
    (hc : checkCode n its g = 0) :
    Calls Try.prog 3 #[.slice A n c, .agg G] w fun e w' => e = .returned (.bool true) ∧ Below w.heap.size w w' := by
  obtain ⟨h32, hgap, hits⟩ := checkCode_inv hc
  have HS := Lib.hid hG.1
  have HG := Lib.hid hgap
  have HI := Lib.hid hits
  have BD := Lib.hid (tT_bd hgap hits)
  have hb0 : Below w.heap.size w (w.alloc (.cells G 24)) := (Below.refl _ _).alloc (Nat.le_refl _) _
  have hA1 := (hA.below hb0).more hb0.size
  have HT : ∀ W, Sl W W.heap.size 4 A n (fun i => (its i).row) → Calls Try.prog 8 #[.slice A n c, .agg G] W fun e w' => ∃ v, e = .returned (.tuple #[v, .int .i64 0]) ∧ w'.ownsRow W.heap.size 3 1 v n (intsV ((List.range n).map (tT g its))) ∧ Below W.heap.size W w' :=
    fun W h => Times_ok A n c its G g W h hn hG hc
  have HT' := Lib.hid HT
  clear HT hgap hits hc
  go_enter Try.func3, Try.ntmps3
  go_wp2_with (first
    | (refine wpList_load_row_w 24 _ rfl w.heap.size rfl rfl 24 G (0, 0) _ (heap_alloc_new w _) Try.underlying24 rfl (by rw [HS.out]; kernel_rfl) ?_)
    | (go_at_call 8; refine (HT'.out _ hA1).mono ?_; rintro e w1 ⟨v, rfl, hown, hb1⟩; obtain ⟨T, ct, rfl⟩ := own_shape hown)
    | (go_at_call 9; refine (fact_any _).mono ?_; rintro e w2 ⟨rfl, hb2⟩))
  have hb02 := hb1.trans (hb2.mono hb1.size)
  have hbel : Below w.heap.size w w2 := hb0.trans (hb02.mono hb0.size)
  have hbx : w2.heap[w.heap.size]? = some (.cells G 24 (0, 0)) := (hb02.block _ (by simp)).trans (heap_alloc_new w _)
  have hA2 := (hA1.below hb02).more hb02.size
  have hT2 := ((Sl_ints hown).below hb2).more hb2.size
  have hsz : w.heap.size < w2.heap.size := by have := hb02.size; simp at this; omega
  clear hown hb1 hb2 hb02 hA1 hb0
  have HX := Lib.hid hbx
  clear hbx
  go_loopw [45] (fun k wr => ∃ i : Nat, i ≤ n ∧ k = .int .i64 i ∧ Below w2.heap.size w2 wr) (fun k _ => n - (intOf k).toNat)
  case atStart => exact ⟨0, by omega, rfl, Below.refl _ _⟩
  case round =>
    obtain ⟨i, hi, rfl, hb⟩ := hrel
    obtain ⟨wo, rfl⟩ : ∃ wo : World, wo = wr := ⟨_, rfl⟩
    by_cases hin : i < n
    · obtain ⟨b, off, rfl, hbb, hrow⟩ := hA2 (by omega)
      obtain ⟨bt, ot, rfl, hbt, htr⟩ := hT2.one (by omega)
      have HR := Lib.hid hrow
      have HTR := Lib.hid htr
      have hso := hb.size
      have hr := hrow i hin
      have c0 : wo.cell? ⟨b, off + i * 4, none⟩ = some (.string (its i).nm) := (hb.cell (p := ⟨b, off + i * 4, none⟩) hbb).trans (hr 0 _ rfl)
      have c1 : wo.cell? ⟨b, off + i * 4 + 1, none⟩ = some (.int .i64 (its i).wk) := (hb.cell (p := ⟨b, off + i * 4 + 1, none⟩) hbb).trans (hr 1 _ rfl)
      have c2 : wo.cell? ⟨b, off + i * 4 + 2, none⟩ = some (.int .i64 (its i).rd) := (hb.cell (p := ⟨b, off + i * 4 + 2, none⟩) hbb).trans (hr 2 _ rfl)
      have c3 : wo.cell? ⟨b, off + i * 4 + 3, none⟩ = some (.int .i64 (its i).sl) := (hb.cell (p := ⟨b, off + i * 4 + 3, none⟩) hbb).trans (hr 3 _ rfl)
      have t1 : wo.cell? ⟨bt, ot + i, none⟩ = some (.int .i64 (tT g its i)) := (hb.cell (p := ⟨bt, ot + i, none⟩) hbt).trans (htr i hin)
      have hbo : b < wo.heap.size := by omega
      have hto : bt < wo.heap.size := by omega
      have l1 : (i : Int) < (n : Int) := by omega
      have l2 : (i : Int) ≤ (c : Int) := by omega
      have l0 : (0 : Int) ≤ (i : Int) := by omega
      clear hr hrow htr
      go_wp2
      go_quiet (fail)
      go_wp2
      have HB := Lib.hid hb
      have HC2 := Lib.hid c2
      clear c0 c1 c3 hb
      go_loopw [9, 61] (fun tg k wr => ∃ (k' : Nat) (q : Bool), k' ≤ i ∧ k = .int .i64 k' ∧ tg = .bool q ∧ Hid (q = tight g its i k') ∧
          Below (wo.heap.size + 1) (wo.alloc (.cells #[.string (its i).nm, .int .i64 (its i).wk, .int .i64 (its i).rd, .int .i64 (its i).sl] 32)) wr) (fun _ k _ => i - (intOf k).toNat)
      case atStart => exact ⟨0, _, by omega, rfl, rfl, tight_zero.symm, below_drewN (Below.refl _ _) _⟩
      case round =>
        obtain ⟨k, q, hk, rfl, rfl, hq, hbw⟩ := hrel
        have hsr := hbw.size
        simp only [World.size_alloc] at hsr
        have hbi : Below w2.heap.size w2 wr := (HB.out.alloc hso _).trans (hbw.mono (by omega))
        have x1 : wr.cell? ⟨wo.heap.size, 1, none⟩ = some (.int .i64 (its i).wk) := (hbw.cell (p := ⟨wo.heap.size, 1, none⟩) (Nat.lt_succ_self _)).trans (cell_of_row _ _ _ _ _ _ (heap_alloc_new wo _))
        have x2 : wr.cell? ⟨wo.heap.size, 2, none⟩ = some (.int .i64 (its i).rd) := (hbw.cell (p := ⟨wo.heap.size, 2, none⟩) (Nat.lt_succ_self _)).trans (cell_of_row _ _ _ _ _ _ (heap_alloc_new wo _))
        have t1' : wr.cell? ⟨bt, ot + i, none⟩ = some (.int .i64 (tT g its i)) := (hbi.cell (p := ⟨bt, ot + i, none⟩) hbt).trans (HTR.out i hin)
        have bxr : wo.heap.size < wr.heap.size := by omega
        have bbr : b < wr.heap.size := by omega
        have btr : bt < wr.heap.size := by omega
        have bgr : w.heap.size < wr.heap.size := by omega
        have hti := BD.out i hin
        clear t1 HC2 c2
        by_cases hlk : k < i
        · have hr := HR.out k (by omega)
          have c0 : wr.cell? ⟨b, off + k * 4, none⟩ = some (.string (its k).nm) := (hbi.cell (p := ⟨b, off + k * 4, none⟩) hbb).trans (hr 0 _ rfl)
          have c1 : wr.cell? ⟨b, off + k * 4 + 1, none⟩ = some (.int .i64 (its k).wk) := (hbi.cell (p := ⟨b, off + k * 4 + 1, none⟩) hbb).trans (hr 1 _ rfl)
          have c2 : wr.cell? ⟨b, off + k * 4 + 2, none⟩ = some (.int .i64 (its k).rd) := (hbi.cell (p := ⟨b, off + k * 4 + 2, none⟩) hbb).trans (hr 2 _ rfl)
          have c3 : wr.cell? ⟨b, off + k * 4 + 3, none⟩ = some (.int .i64 (its k).sl) := (hbi.cell (p := ⟨b, off + k * 4 + 3, none⟩) hbb).trans (hr 3 _ rfl)
          have tk : wr.cell? ⟨bt, ot + k, none⟩ = some (.int .i64 (tT g its k)) := (hbi.cell (p := ⟨bt, ot + k, none⟩) hbt).trans (HTR.out k (by omega))
          have hok := HI.out k (by omega)
          have hoi := HI.out i hin
          unfold It.ok at hok hoi
          have gk : wr.cell? ⟨w.heap.size, (its k).wk.toNat * 4 + (its i).wk.toNat, none⟩ = some (.int .i64 (g ((its k).wk.toNat * 4 + (its i).wk.toNat))) := by
            rw [cell_of_row wr _ _ _ _ _ ((hbi.block _ hsz).trans HX.out)]; exact hG.2 _ (by omega)
          have hgk := HG.out ((its k).wk.toNat * 4 + (its i).wk.toNat) (by omega)
          unfold gapOk at hgk
          have htk := BD.out k (by omega)
          have hge := tT_gap (g := g) (its := its) hlk
          have hwr : IntKind.i64.wrap (tT g its k + g ((its k).wk.toNat * 4 + (its i).wk.toNat)) = tT g its k + g ((its k).wk.toNat * 4 + (its i).wk.toNat) := IntWalk.i64_in _ (by omega)
          have l3 : (k : Int) < (n : Int) := by omega
          have l4 : (k : Int) < (i : Int) := by omega
          have l5 : (0 : Int) ≤ (k : Int) := by omega
          clear hr
          cases q with
          | true =>
            go_wp2
            go_quiet (fail)
            go_wp2
            go_roundw
            case rel => exact ⟨k + 1, true, by omega, by go_num, rfl, tight_true hq, below_drewN (hbw.alloc (by omega) _) _⟩
            case measure => simp [intOf]; omega
          | false =>
            go_wp2
            go_quiet (fail)
            go_wp2
            go_roundw
            case rel => exact ⟨k + 1, _, by omega, by go_num, rfl, tight_false hq, below_drewN (hbw.alloc (by omega) _) _⟩
            case measure => simp [intOf]; omega
        · have e : k = i := by omega
          subst e
          obtain rfl : q = true := hq.out.trans (tight_all k)
          have hrd := tT_ready (g := g) (its := its) (i := k)
          have hdf : decide (tT g its k < (its k).rd) = false := decide_eq_false (by omega)
          go_wp2
          go_quiet (fail)
          go_wp2
          go_roundw
          case rel => exact ⟨k + 1, by omega, by go_num, below_drewN hbi _⟩
          case measure => simp [intOf]; omega
    · go_wp2
      go_ret
      exact ⟨rfl, hbel.trans (hb.mono hbel.size)⟩
end Go.Proofs.Ytmdfdjgeaemicaa
