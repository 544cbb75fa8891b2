/- Package clock: Order, of one event or more. -/
import Derived.Test.YtchpgknaaofapaaA15
import Derived.Outline
namespace Go.Proofs.Ytchpgknaaofapaa
open Go.RowKit Go.Sort

def OrdPost (w : World) (l : List Ev) (N : Nat) (e : Ending) (w' : World) : Prop := ∃ (b c' : Nat) (p : Nat → Nat), e = .returned (.tuple #[.slice (some ⟨b, 0, none⟩) N c', .int .i64 0]) ∧ Sorted l N p ∧ b < w'.heap.size ∧ (∀ i, i < N → w'.cell? ⟨b, i, none⟩ = some (.int .i64 (p i : Nat))) ∧ Below w.heap.size w w' ∧ w.heap.size ≤ b

set_option maxRecDepth 100000 in
set_option maxHeartbeats 8000000 in
theorem Order_ok (A : Option Addr) (c : Nat) (l : List Ev) (M : Nat) (hln : l.length = M + 1) (w : World) (hA : EvsAt w w.heap.size A l) (hn : M + 1 ≤ c) (hc : c ≤ maxLen) (he : checkE l = 0) :
    Calls Try.prog 17 #[.slice A (M + 1) c] w (OrdPost w l (M + 1)) := by
  obtain ⟨b, off, rfl, hb, hr⟩ := hA (by omega)
  have hb0 : Below w.heap.size w (w.alloc (.cells #[.slice (some ⟨b, off, none⟩) (M + 1) c] 22)) := (Below.refl _ _).alloc (Nat.le_refl _) _
  have hLam := Lamport_ok (some ⟨b, off, none⟩) c l (M + 1) hln _ ((hA.below hb0).more hb0.size) hn hc he
  have h200 : M + 1 ≤ 200 := by have := (code_inv he).1; omega
  have hLb : ∀ i, i < M + 1 → 0 ≤ LvE l i ∧ LvE l i ≤ 1000 := fun i hi => by
    have := LvE_bd he (j := i) (by omega)
    omega
  have hSb : ∀ i, i < M + 1 → 0 ≤ l[i]!.1 ∧ l[i]!.1 ≤ 8 := fun i hi => by
    obtain ⟨e1, e2, _⟩ := ev_ok ((code_inv he).2 i (by omega))
    omega
  have hev : ∀ i, i < M + 1 → w.cell? ⟨b, off + i * 3, none⟩ = some (.int .i64 l[i]!.1) := fun i hi => hr i (by omega) 0 _ rfl
  obtain ⟨i0, J0, J1, J2, J3⟩ := info_parts int_info
  have HLB := Lib.hid hLb
  have HSB := Lib.hid hSb
  have HEV := Lib.hid hev
  clear hA hr he hLb hSb hev hln
  go_enter Try.func17, Try.ntmps17
  go_wp2_with (go_at_call 12; go_loud (refine hLam.mono ?_; rintro e w2 ⟨v2, rfl, hv2, hb2⟩; obtain ⟨hc2, hf2⟩ := bcell hb2; obtain ⟨A2, c2, rfl⟩ := own_shape hv2; obtain ⟨g2, cap2, hsv2, hg2, hlt2⟩ := hv2.form (by omega); have hA2 : A2 = some ⟨g2, 0, none⟩ := (Value.slice.inj hsv2).1; subst hA2; have HV2 := Lib.hid hv2; have hz2 : w.heap.size < w2.heap.size := (by have := hb2.size; simp at this; omega); have hz2' : w.heap.size ≠ w2.heap.size := (by omega); clear hv2 hsv2))
  have HC2 := Lib.hid hc2
  have HB2 := Lib.hid hb2
  clear hc2 hf2 hb2 hLam
  generalize hW3 : w2.alloc (.cells #[.slice (some ⟨g2, 0, none⟩) (M + 1) c2] 28) = w3
  have hz3 : w3.heap.size = w2.heap.size + 1 := by rw [← hW3]; simp
  have c1 : w3.cell? ⟨w2.heap.size, 0, none⟩ = some (.slice (some ⟨g2, 0, none⟩) (M + 1) c2) := by rw [← hW3]; simp
  have c0 : w3.cell? ⟨w.heap.size, 0, none⟩ = some (.slice (some ⟨b, off, none⟩) (M + 1) c) := by
    rw [← hW3]
    exact (((Below.refl _ w2).alloc (Nat.le_refl _) _).cell (p := ⟨w.heap.size, 0, none⟩) hz2).trans ((HC2.out w.heap.size 0 (by simp)).trans ((cell_of_row _ _ 0 _ _ _ (heap_alloc_new w _)).trans rfl))
  have hb3 : Below w.heap.size w w3 := by
    rw [← hW3]
    exact (hb0.trans (HB2.out.mono (by simp))).alloc (by omega) _
  have hL3 : ∀ i, i < M + 1 → w3.cell? ⟨g2, i, none⟩ = some (.int .i64 (LvE l i)) := fun i hi => by
    have h1 := HV2.out.cellAt i (by omega)
    rw [intsV_get hi] at h1
    rw [← hW3]
    exact (((Below.refl _ w2).alloc (Nat.le_refl _) _).cell (p := ⟨g2, i, none⟩) hlt2).trans h1
  have HX := Lib.hid (And.intro hL3 hb3)
  have HC01 := Lib.hid (And.intro c0 c1)
  have HZ3 := Lib.hid hz3
  have hz3' : w2.heap.size < w3.heap.size := by omega
  clear hL3 hb3 hW3 hz3
  go_loopw [6, 18] (fun v x wr => ∃ j : Nat, j ≤ M + 1 ∧ x = .int .i64 j ∧ wr.ownsRow w3.heap.size 3 1 v j (intsV ((List.range j).map fun i : Nat => (i : Int))) ∧ Below w3.heap.size w3 wr) (fun _ x _ => M + 1 - (intOf x).toNat)
  case atStart => exact ⟨0, by omega, rfl, World.ownsRow_nil _ _ _ _, Below.refl _ _⟩
  case round =>
    obtain ⟨j, hj, rfl, hown, hbr⟩ := hrel
    by_cases hlt : j < M + 1
    · obtain ⟨O, co, rfl⟩ := own_shape hown
      have HO := Lib.hid hown
      have hjM : (j : Int) < (M : Int) + 1 := by omega
      have hj0 : (0 : Int) ≤ (j : Int) := by omega
      clear hown
      go_wp2_with (at_builtin; go_loud (refine wpList_append_intN wr wr.heap.size rfl (j : Int) rfl (.tmp 21) (.tmp 23) 28 rfl w3.heap.size 3 i0 Try.underlying28 J0 J1 J2 J3 (.slice O j co) j _ rfl HO.out rfl (by omega) hbr.size ?_); intro g5 cap5 w5 hv5 hg5 hat5 hlt5)
      go_roundw
      case rel => exact ⟨j + 1, by omega, by go_num, by rw [range_snoc (fun i : Nat => (i : Int))] at hv5; exact hv5, below_app hbr hbr.size HO.out (Nat.le_refl _) hg5⟩
      case measure => simp [intOf]; omega
    · obtain rfl : j = M + 1 := by omega
      obtain ⟨gb, cb, hvb, hgb, hltb⟩ := hown.form (by omega)
      subst hvb
      have hd : (Array.ofFn (fun i : Pl M => i)).size = M + 1 := by simp
      have hH : Holds (encP (M := M)) wr gb 0 (Array.ofFn (fun i : Pl M => i)) := fun i hi => by
        rw [hd] at hi
        rw [Nat.zero_add, hown.cellAt i (by omega), intsV_get hi, getElem!_pos _ i (by simpa using hi)]
        refine ⟨by simp [encP], hown.frozenAt i⟩
      have hz3 := HZ3.out
      have hcmp : CmpLays1 Try.prog 24 #[.pointer (some ⟨w2.heap.size, 0, none⟩), .pointer (some ⟨w.heap.size, 0, none⟩)] (encP (M := M)) (cfP l) gb 0 (Array.ofFn (fun i : Pl M => i)).size wr := by
        rw [hd]
        exact cmp_lays l w2.heap.size w.heap.size g2 b off c2 c gb w3.heap.size wr ((hbr.cell (p := ⟨w2.heap.size, 0, none⟩) (by omega)).trans HC01.out.2) ((hbr.cell (p := ⟨w.heap.size, 0, none⟩) (by show w.heap.size < w3.heap.size; omega)).trans HC01.out.1)
          (fun i hi => (hbr.cell (p := ⟨g2, i, none⟩) (by show g2 < w3.heap.size; omega)).trans (HX.out.1 i hi)) (fun i hi => (hbr.cell (p := ⟨b, off + i * 3, none⟩) (by show b < w3.heap.size; omega)).trans ((HX.out.2.cell (p := ⟨b, off + i * 3, none⟩) hb).trans (HEV.out i hi)))
          HLB.out HSB.out (by omega) (by omega) (by omega) (by omega) hgb hbr.size
      have hcon := Any.slices_SortFunc Try.l23 (encP (M := M)) (fun _ => rfl) (cfP l) (swo_cf l) 24 #[.pointer (some ⟨w2.heap.size, 0, none⟩), .pointer (some ⟨w.heap.size, 0, none⟩)] gb 0 cb (Array.ofFn (fun i : Pl M => i)) wr eg24 hcmp hH hltb (by rw [hd]; omega)
      rw [hd] at hcon
      change Calls Try.prog 23 _ _ _ at hcon
      have HO := Lib.hid hown
      have HH := Lib.hid hH
      have HBR := Lib.hid hbr
      clear hown hH hcmp hbr hd hz3
      go_wp2_with (go_at_call 23; go_loud (refine hcon.mono ?_; rintro e w6 ⟨rfl, d', n6, os6, hp6, hs6, rfl⟩))
      have hsz : d'.size = M + 1 := by rw [hp6.1]; simp
      have hcells := holds_sortWorld (encP (M := M)) wr gb 0 n6 (Array.ofFn (fun i : Pl M => i)) d' os6 hltb HH.out hp6.1
      have hb36 := HX.out.2.trans (HBR.out.mono HX.out.2.size)
      have hbs := below_sort (encP (M := M)) wr gb 0 n6 w.heap.size d' os6 (by omega) hb36.size
      go_ret2
      refine ⟨gb, cb, fun i => d'[i]!.val, rfl, sorted_of l hp6 hs6, lt_sortWorld _ _ _ _ _ _ _ hltb, fun i hi => ?_, hb36.trans hbs, by omega⟩
      have := (hcells i (by omega)).1
      rw [Nat.zero_add] at this
      exact this
end Go.Proofs.Ytchpgknaaofapaa
