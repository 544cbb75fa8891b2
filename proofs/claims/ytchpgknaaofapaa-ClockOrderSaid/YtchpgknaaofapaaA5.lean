/- Package clock: vectors. -/
import Derived.Test.YtchpgknaaofapaaA4
import Derived.Deep.CutRange
import Derived.Deep.CutBlock
namespace Go.Proofs.Ytchpgknaaofapaa
open Go.RowKit

theorem sl_info : (Try.prog.info? 28).map (fun i => (i.zero, i.size, i.bytes)) = some (some (.slice none 0 0), 1, 24) := by kernel_rfl

theorem zero64 : ∀ s, s < 64 → (Array.replicate 64 (Value.int .i64 0))[s]? = some (.int .i64 0) := fun s hs => by simp [Array.getElem?_replicate, hs]

set_option maxRecDepth 100000 in
set_option maxHeartbeats 8000000 in
theorem vectors_ok (A : Option Addr) (c : Nat) (l : List Ev) (n : Nat) (hln : l.length = n) (w : World) (hA : EvsAt w w.heap.size A l) (hn : n ≤ c) (hc : c ≤ maxLen) (he : checkE l = 0) :
    Calls Try.prog 21 #[.slice A n c] w fun e w' => ∃ v hs, e = .returned v ∧ VecRows w' w.heap.size v n hs (VvE l) ∧ Below w.heap.size w w' := by
  have HC := Lib.hid he
  have HL := Lib.hid hln
  have HA := Lib.hid hA
  have h200 : n ≤ 200 := by have := (code_inv he).1; omega
  clear he hA hln
  obtain ⟨i0, J0, J1, J2, J3⟩ := info_parts int_info
  obtain ⟨i1, I0, I1, I2, I3⟩ := info_parts sl_info
  go_enter Try.func21, Try.ntmps21
  go_wp2
  go_loopw [4, 12] (fun v k wr => ∃ (j : Nat) (C : Array Value) (hs : List Value), j ≤ n ∧ k = .int .i64 j ∧ wr.heap[w.heap.size]? = some (.cells C 55 (0, 0)) ∧ Tab C 64 (laT l j) ∧ VecRows wr (w.heap.size + 1) v j hs (VvE l) ∧ Below w.heap.size w wr ∧ w.heap.size + 1 ≤ wr.heap.size) (fun _ k _ => n - (intOf k).toNat)
  case atStart =>
    refine ⟨0, _, [], by omega, rfl, heap_alloc_new w _, ⟨rfl, fun s hs => ?_⟩, ⟨World.ownsRow_nil _ _ _ _, fun i hi => absurd hi (by omega)⟩, (Below.refl _ _).alloc (Nat.le_refl _) _, by simp⟩
    have hz : laT l 0 s = 0 := rfl
    rw [hz]
    exact zero64 s hs
  case round =>
    obtain ⟨j, C, hs, hj, rfl, hC, hT, hV, hbel, hz⟩ := hrel
    obtain ⟨wo, rfl⟩ : ∃ wo : World, wo = wr := ⟨_, rfl⟩
    by_cases hlt : j < n
    · obtain ⟨e1, ha8, hk0, hk2, hrc⟩ := ev_ok ((code_inv HC.out).2 j (by rw [HL.out]; exact hlt))
      have hbs := bsE_bd HC.out (j := j) (by rw [HL.out]; exact hlt) (sa l j)
      have hset := bsT_set HC.out (j := j) (by rw [HL.out]; exact hlt) ha8
      have hof := bsT_of (l := l) (j := j)
      have hno := bsT_no (l := l) (j := j)
      generalize hae : sa l j = a at *
      have HAE := Lib.hid hae
      generalize hbe : bsE l j a = bs at *
      have HBE := Lib.hid hbe
      have HSET := Lib.hid hset
      have HOF := Lib.hid hof
      have HNO := Lib.hid hno
      have fC := frozen_of_row wo w.heap.size
      clear hae hbe hset hof hno fC
      have ha0 : (0 : Int) ≤ (a : Int) := by omega
      have ha8' : (a : Int) < 8 := by omega
      have hwz : w.heap.size < wo.heap.size := by omega
      have hwz' : w.heap.size ≠ wo.heap.size := by omega
      have hA' := HA.out
      have hl := HL.out
      obtain ⟨b, off, rfl, hb, hr⟩ := hA' (by omega)
      have hrow := hr j (by omega)
      have o0 : wo.cell? ⟨b, off + j * 3, none⟩ = some (.int .i64 l[j]!.1) := (hbel.cell (p := ⟨b, off + j * 3, none⟩) hb).trans (hrow 0 _ rfl)
      have o1 : wo.cell? ⟨b, off + j * 3 + 1, none⟩ = some (.int .i64 l[j]!.2.1) := (hbel.cell (p := ⟨b, off + j * 3 + 1, none⟩) hb).trans (hrow 1 _ rfl)
      have o2 : wo.cell? ⟨b, off + j * 3 + 2, none⟩ = some (.int .i64 l[j]!.2.2) := (hbel.cell (p := ⟨b, off + j * 3 + 2, none⟩) hb).trans (hrow 2 _ rfl)
      rw [e1] at o0
      have hbw : b < wo.heap.size := Nat.lt_of_lt_of_le hb hbel.size
      have hA2 : EvsAt wo wo.heap.size (some ⟨b, off, none⟩) (l.take j) := evs_take ((HA.out.below hbel).more hbel.size) j
      have hlen : (l.take j).length = j := by rw [List.length_take]; omega
      obtain ⟨O, co, rfl⟩ := own_shape hV.own
      have HT := Lib.hid hT
      have HV := Lib.hid hV
      have hj0 : (0 : Int) ≤ (j : Int) := by omega
      have hjc : (j : Int) ≤ (c : Int) := by omega
      clear hT hV hr hrow hl hA' e1
      have hk01 : (l[j]!.2.1 == 2) = rc l j := rfl
      have HR := Lib.hid hrc
      clear hrc
      generalize hk : l[j]!.2.1 = k at *
      generalize hm : l[j]!.2.2 = m at *
      have HK := Lib.hid hk01
      clear hk01 hk hm
      have HCC := Lib.hid hC
      have cT := fun s hs => (cell_of_row wo w.heap.size s C 55 (0, 0) hC).trans (HT.out.2 s hs)
      clear hC
      go_upto_if 22 with fail
      go_cut [8, 9, 12] from 12 to 66 (fun _ _ s12 wx => s12 = .int .i64 j ∧ ∃ C2, wx.heap[w.heap.size]? = some (.cells C2 55 (0, 0)) ∧ Tab C2 64 (bsT l j) ∧ wx.heap[wo.heap.size]? = some (.cells #[.int .i64 a, .int .i64 k, .int .i64 m] 34 (0, 0)) ∧ VecRows wx (w.heap.size + 1) (.slice O j co) j hs (VvE l) ∧ Below w.heap.size w wx ∧ wo.heap.size + 1 ≤ wx.heap.size)
      case first =>
        by_cases hrcv : rc l j = true
        · obtain ⟨hsj, hsi⟩ := HR.out hrcv
          have hkt := HK.out
          rw [hrcv] at hkt
          have hof := HOF.out hrcv
          have HOF2 := Lib.hid hof
          clear hof
          generalize hrr : sj l j = r at *
          obtain ⟨gr, cr, hrow, _, hrown⟩ := HV.out.row r hsj
          obtain ⟨go, cap, hv, _, hlto⟩ := HV.out.own.form (by omega)
          have hO : O = some ⟨go, 0, none⟩ := by injection hv
          subst hO
          have cO : wo.cell? ⟨go, r, none⟩ = some (.slice (some ⟨gr, 0, none⟩) 8 cr) := by
            have := HV.out.own.cells (g := go) rfl r _ hrow
            rw [Addr.add_mid, Nat.zero_add] at this
            exact this
          have hr0 : (0 : Int) ≤ (r : Int) := by omega
          have hrj : (r : Int) < (j : Int) := by omega
          have hgw' : go ≠ wo.heap.size := by omega
          have hgw1 : go ≤ wo.heap.size := by omega
          have hgw2 : go < wo.heap.size + 1 := by omega
          have hsent := fun (W : World) (hw : Below wo.heap.size wo W) => sent_any (some ⟨b, off, none⟩) c (l.take j) j hlen m W ((hA2.below hw).more hw.size) (by unfold maxLen; omega)
          rw [hsi] at hsent
          have HS := Lib.hid hsent
          have hk2' : k = 2 := by simpa using hkt
          clear hkt
          subst hk2'
          have HRO := Lib.hid hrown
          have HRR := Lib.hid hrr
          clear hsent hsi hrow hrown hrr
          go_wp2_with fail
          go_region_held3 (fun W => W.cell? ⟨wo.heap.size, 2, none⟩ = some (.int .i64 m) ∧ W.cell? ⟨go, r, none⟩ = some (.slice (some ⟨gr, 0, none⟩) 8 cr)) (first | go_keep | ((try dsimp only); constructor <;> go_keep)) ((go_at_call 22; refine (HS.out _ (by exact ((Below.refl _ _).alloc (Nat.le_refl _) _).drew)).mono ?_; rintro e w3 ⟨rfl, hb3⟩; obtain ⟨hc3, hf3⟩ := bcell hb3))
          have h3 : Hid (Below wo.heap.size wo w3) := Lib.hid (((Below.refl _ _).alloc (Nat.le_refl _) _).drew.trans (hb3.mono (by simp)))
          have h3C : Hid (w3.heap[w.heap.size]? = some (.cells C 55 (0, 0))) := Lib.hid ((h3.out.block _ hwz).trans HCC.out)
          have h3B : Hid (w3.heap[wo.heap.size]? = some (.cells #[.int .i64 a, .int .i64 2, .int .i64 m] 34 (0, 0))) := Lib.hid ((hb3.block _ (by simp)).trans (heap_alloc_new wo _))
          have h3z : wo.heap.size + 1 ≤ w3.heap.size := by have := hb3.size; simpa using this
          have h3V : Hid (VecRows w3 (w.heap.size + 1) (.slice (some ⟨go, 0, none⟩) j co) j hs (VvE l)) := Lib.hid (HV.out.below h3.out)
          have h3R : Hid (w3.ownsRow (w.heap.size + 1) 3 1 (.slice (some ⟨gr, 0, none⟩) 8 cr) 8 (intsV ((List.range 8).map (VvE l r)))) := Lib.hid (own_below HRO.out h3.out (Nat.le_refl _))
          clear hb3 hc3 hf3 cT cO
          go_wp2_with fail
          go_loopw [33] (fun i wr => ∃ (s : Nat) (C' : Array Value), s ≤ 8 ∧ i = .int .i64 s ∧ wr.heap[w.heap.size]? = some (.cells C' 55 (0, 0)) ∧ Tab C' 64 (mxT l j a r s) ∧ wr.heap[wo.heap.size]? = some (.cells #[.int .i64 a, .int .i64 2, .int .i64 m] 34 (0, 0)) ∧ VecRows wr (w.heap.size + 1) (.slice (some ⟨go, 0, none⟩) j co) j hs (VvE l) ∧ wr.ownsRow (w.heap.size + 1) 3 1 (.slice (some ⟨gr, 0, none⟩) 8 cr) 8 (intsV ((List.range 8).map (VvE l r))) ∧ Below w.heap.size w wr ∧ wo.heap.size + 1 ≤ wr.heap.size) (fun i _ => 8 - (intOf i).toNat)
          case atStart => exact ⟨0, C, by omega, rfl, h3C.out, HT.out.congr (fun q _ => mxT_zero q), h3B.out, h3V.out, h3R.out, hbel.trans (h3.out.mono hbel.size), h3z⟩
          case round =>
            obtain ⟨s, C', hs8, rfl, hC', hT', hB', hV', hR', hbel', hz'⟩ := hrel
            by_cases hlt8 : s < 8
            · have hla := LaE_bd HC.out (j := j) (by rw [HL.out]; exact hj) a s
              have hvb := VvE_bd HC.out (j := r) (by rw [HL.out]; omega) s
              have hcell := (cell_of_row wr w.heap.size (a * 8 + s) C' 55 (0, 0) hC').trans (hT'.2 (a * 8 + s) (by omega))
              have hmx : mxT l j a r s (a * 8 + s) = LaE l j a s := by
                unfold mxT laT
                rw [if_neg (by omega), show (a * 8 + s) / 8 = a by omega, show (a * 8 + s) % 8 = s by omega]
              rw [hmx] at hcell
              have hfree := frozen_of_row wr w.heap.size (a * 8 + s) C' 55 hC'
              have hn := hR'.cells (g := gr) rfl s (.int .i64 (VvE l r s)) (intsV_get hlt8)
              rw [Addr.add_mid, Nat.zero_add] at hn
              have hset := (hT'.set (a * 8 + s) (max (LaE l j a s) (VvE l r s)) (by omega)).congr (fun q hq => mxT_set ha8 hlt8 q hq)
              have hC2 := heap_setCell_same wr w.heap.size (a * 8 + s) C' 55 (.int .i64 (max (LaE l j a s) (VvE l r s))) hC'
              have hB2 := (heap_setCell_other wr ⟨w.heap.size, a * 8 + s, none⟩ wo.heap.size (.int .i64 (max (LaE l j a s) (VvE l r s))) (by show wo.heap.size ≠ w.heap.size; omega)).trans hB'
              have hg := grown_setCell wr w.heap.size (a * 8 + s) (.int .i64 (max (LaE l j a s) (VvE l r s)))
              have hV2 := hV'.kept (Nat.lt_succ_self _) hg
              have hR2 := hR'.kept hg (own_ne hR' (Nat.lt_succ_self _))
              have hbel2 := hbel'.setCell (p := ⟨w.heap.size, a * 8 + s, none⟩) (Nat.le_refl _) (.int .i64 (max (LaE l j a s) (VvE l r s)))
              have HX := Lib.hid (And.intro hC2 (And.intro hset (And.intro hB2 (And.intro hV2 (And.intro hR2 hbel2)))))
              have hs0 : (0 : Int) ≤ (s : Int) := by omega
              have hs8' : (s : Int) < 8 := by omega
              have hwi : w.heap.size < wr.heap.size := by omega
              clear hC' hT' hB' hV' hR' hset hC2 hB2 hg hV2 hR2 hbel2 hmx
              generalize LaE l j a s = x at *
              generalize VvE l r s = y at *
              go_wp2_with fail
              go_still_tail 11, (by kernel_rfl)
              change wpList _ _ _ _ _ wr.drew
              go_wp2_with fail
              obtain ⟨hC2, hset, hB2, hV2, hR2, hbel2⟩ := HX.out
              go_roundw
              case rel => exact ⟨s + 1, _, by omega, by go_num, hC2, hset, hB2, hV2.drewN 1, hR2, hbel2.drew, by simp; omega⟩
              case measure => simp [intOf]; omega
            · obtain rfl : s = 8 := by omega
              have hX := Lib.hid (And.intro hC' (And.intro hT' (And.intro hB' hV')))
              clear hC' hT' hB' hV' hR'
              go_wp2_with fail
              go_meet
              obtain ⟨hC', hT', hB', hV'⟩ := hX.out
              exact ⟨rfl, C', hC', hT'.congr HOF2.out, hB', hV', hbel', hz'⟩
        · have hrf : rc l j = false := by simpa using hrcv
          have hk := HK.out
          rw [hrf] at hk
          go_wp2
          go_meet
          exact ⟨rfl, C, (Below.heap_alloc wo _ w.heap.size hwz).trans HCC.out, HT.out.congr (HNO.out hrcv), heap_alloc_new wo _, HV.out.alloc _, hbel.alloc hbel.size _, by simp⟩
      case rest =>
        obtain ⟨rfl, C2, hC2, hT2, hB2, hV2, hbel2, hz2⟩ := hcut
        have hq1 : (a * 8 + a) / 8 = a := by omega
        have hq2 : (a * 8 + a) % 8 = a := by omega
        have hbT : bsT l j (a * 8 + a) = bs := by
          unfold bsT
          rw [HAE.out, if_pos hq1, hq2, HBE.out]
        have cT2 := (cell_of_row wc w.heap.size (a * 8 + a) C2 55 (0, 0) hC2).trans (hT2.2 (a * 8 + a) (by omega))
        have fT2 := frozen_of_row wc w.heap.size (a * 8 + a) C2 55 hC2
        rw [hbT] at cT2
        have cB0 : wc.cell? ⟨wo.heap.size, 0, none⟩ = some (.int .i64 a) := (cell_of_row wc wo.heap.size 0 _ 34 (0, 0) hB2).trans rfl
        have HT2 := Lib.hid hT2
        have HV2 := Lib.hid hV2
        have HC2 := Lib.hid hC2
        have HB2 := Lib.hid hB2
        clear hq1 hq2 hbT hT2 hV2 hC2 hB2
        go_wp2
        go_still_tail 9, (by kernel_rfl)
        change wpList _ _ _ _ _ wc.drew
        have hT3 : Tab (C2.setIfInBounds (a * 8 + a) (.int .i64 (bs + 1))) 64 (laT l (j + 1)) := (HT2.out.set (a * 8 + a) (bs + 1) (by omega)).congr (HSET.out)
        have hC3 : ((wc.setCell ⟨w.heap.size, a * 8 + a, none⟩ (.int .i64 (bs + 1))).drew).heap[w.heap.size]? = some (.cells (C2.setIfInBounds (a * 8 + a) (.int .i64 (bs + 1))) 55 (0, 0)) := heap_setCell_same wc _ _ C2 55 (.int .i64 (bs + 1)) HC2.out
        have hV3 : VecRows ((wc.setCell ⟨w.heap.size, a * 8 + a, none⟩ (.int .i64 (bs + 1))).drew) (w.heap.size + 1) (.slice O j co) j hs (VvE l) := (HV2.out.kept (Nat.lt_succ_self _) (grown_setCell _ _ _ _)).drewN 1
        have hbel3 := (hbel2.setCell (p := ⟨w.heap.size, a * 8 + a, none⟩) (Nat.le_refl _) (.int .i64 (bs + 1))).drew
        have hz3 : w.heap.size + 1 ≤ ((wc.setCell ⟨w.heap.size, a * 8 + a, none⟩ (.int .i64 (bs + 1))).drew).heap.size := by simp; omega
        have hcl := CloneInts_any (some ⟨w.heap.size, a * 8, none⟩) 8 8 (fun s => [.int .i64 (VvE l j s)]) ((wc.setCell ⟨w.heap.size, a * 8 + a, none⟩ (.int .i64 (bs + 1))).drew)
          (fun _ => ⟨w.heap.size, a * 8, rfl, hz3, fun s hs q u hq => by
            have hq0 : q = 0 := by
              rcases Nat.eq_zero_or_pos q with h | h
              · exact h
              · rw [List.getElem?_eq_none (by simp; omega)] at hq; cases hq
            subst hq0
            simp only [List.getElem?_cons_zero, Option.some.injEq] at hq
            rw [← hq, cell_of_row _ _ _ _ _ _ hC3, Nat.mul_one, Nat.add_zero, hT3.2 _ (by omega)]
            unfold laT
            rw [show (a * 8 + s) / 8 = a by omega, show (a * 8 + s) % 8 = s by omega, LaE_succ, HAE.out, if_pos rfl]⟩)
          (fun _ _ => rfl) (fun i _ u hu => by rw [List.mem_singleton.1 hu]; rfl) (fun h => by cases h) (by decide) (by decide)
        have HX := Lib.hid (And.intro hT3 (And.intro hC3 (And.intro hV3 hbel3)))
        clear hT3 hC3 hV3 hbel3
        go_wp2_with (first
          | (go_at_call 18; refine hcl.mono ?_; rintro e w5 ⟨v5, rfl, hown5', hb5⟩; go_loud (rw [← intsV_flat (VvE l j) 8] at hown5'; obtain ⟨g5, c5, rfl, hg5, hlt5⟩ := hown5'.form (by decide); have hown5 := Lib.hid hown5'; clear hown5'; have HV5 := Lib.hid (HX.out.2.2.1.below hb5); have hz5 := hb5.size; simp at hz5))
          | (at_builtin; go_loud (refine wpList_append_one w5 #[.slice (some ⟨g5, 0, none⟩) 8 c5] rfl (.tmp 59) (.tmp 64) 23 rfl (w.heap.size + 1) 28 i1 (.slice none 0 0) 1 24 Try.underlying23 I0 I1 I2 I3 rfl (by decide) (.slice O j co) j hs rfl HV5.out.own rfl rfl (by simp [Value.oneCell']) (by omega) (by decide) (by have := hbel2.size; have := hb5.size; simp at this; omega) ?_); intro g6 cap6 w6 hv6 hg6 hat6 hlt6))
        obtain ⟨hT3, hC3, hV3, hbel3⟩ := HX.out
        have hbel5 := hbel3.trans (hb5.mono hbel3.size)
        have hz6 := hg6.size
        simp at hz6
        go_roundw
        case rel =>
          refine ⟨j + 1, _, _, by omega, by go_num, heap_app HV5.out.own (Nat.lt_succ_self _) (by omega) ((hb5.block _ hz3).trans hC3) hg6, hT3, VecRows.snoc HV5.out hown5.out (by omega) (fun e => ?_) hg6 hv6 ?_, below_app hbel5 hbel5.size HV5.out.own (by omega) hg6, by omega⟩
          · have := (hV3.own.lt g5 e).2
            omega
          · rcases hat6 with h | h
            · exact .inl (by rw [h]; rfl)
            · exact .inr ⟨g6, rfl, by omega⟩
        case measure => simp [intOf]; omega
    · obtain rfl : n = j := by omega
      have HV := Lib.hid hV
      clear hV hT
      go_wp2
      go_ret
      exact ⟨_, hs, rfl, ⟨own_mono HV.out.own (by omega), fun i hi => by
        obtain ⟨g, cap, h1, h2, h3⟩ := HV.out.row i hi
        exact ⟨g, cap, h1, h2, own_mono h3 (by omega)⟩⟩, hbel⟩
end Go.Proofs.Ytchpgknaaofapaa
