/- Package console: the walk of ConsoleCompletes. -/
import Derived.Test.YtdlifdmnfbjokaaA3
import Derived.Test.YtdlifdmnfbjokaaFlat
namespace Go.Proofs.Ytdlifdmnfbjokaa
open Go.RowKit Go.Sort

theorem Complete_empty (w : World) : Calls Try.prog 4 #[.string ⟨#[]⟩] w fun e w' => ∃ A c, e = .returned (.slice A 10 c) ∧ Sl w' w'.heap.size 1 A 10 (rowW sortedL) ∧ Below w.heap.size w w' := by
  have h := Complete_any ByteArray.empty w
  rw [comp_empty] at h
  exact h

set_option maxRecDepth 100000 in
set_option maxHeartbeats 8000000 in
theorem CCompletes_any (s : ByteArray) (w : World) : Calls Try.prog 3 #[.string s] w fun e w' => e = .returned (.bool true) ∧ Below w.heap.size w w' := by
  obtain ⟨i0, J0, J1, J2, J3⟩ := info_parts str_info
  have HC0 := Lib.hid (fun W => Complete_empty W)
  have HC1 := Lib.hid (fun W => Complete_any s W)
  have tok1 : True := trivial
  go_enter Try.func3, Try.ntmps3
  go_wp2_with (first
    | (go_at_call 4; have _t := tok1; go_loud (refine (HC0.out _).mono ?_; rintro e w1 ⟨A, c, rfl, hA, hb1⟩; have HA := Lib.hid hA; have HB1 := Lib.hid hb1; clear hA hb1 tok1))
    | (go_at_call 5; go_loud (refine (IsSorted_any A c w1 HA.out).mono ?_; rintro e w2 ⟨rfl, q2, rfl⟩)))
  have HB2 : Hid (Below w.heap.size w (w1.drewN q2)) := Lib.hid (below_drewN HB1.out q2)
  have HA2 : Hid (Sl (w1.drewN q2) (w1.drewN q2).heap.size 1 A 10 (rowW sortedL)) := Lib.hid (HA.out.drewN q2)
  generalize w1.drewN q2 = w2 at *
  clear HA HB1
  go_loopw [4, 18] (fun v x wr => ∃ k m : Nat, k ≤ 10 ∧ m = ((sortedL.take k).filter (pre s)).length ∧ x = .int .i64 k ∧ wr.ownsRow w2.heap.size 9 1 v m (wordV ((sortedL.take k).filter (pre s))) ∧ Below w2.heap.size w2 wr) (fun _ x _ => 10 - (intOf x).toNat)
  case atStart => exact ⟨0, 0, by omega, rfl, rfl, World.ownsRow_nil _ _ _ _, Below.refl _ _⟩
  case round =>
    obtain ⟨k, m, hk, hm, rfl, hown, hbr⟩ := hrel
    obtain ⟨V, cv, rfl⟩ := own_shape hown
    have HOW := Lib.hid hown
    have HBR := Lib.hid hbr
    have HM := Lib.hid hm
    have hzr := hbr.size
    have hm10 : m ≤ 10 := by
      rw [hm]
      exact Nat.le_trans (List.length_filter_le _ _) (by rw [List.length_take]; omega)
    clear hown hm
    by_cases hkn : k < 10
    · have hkv : k < sortedL.length := hkn
      obtain ⟨b, off, rfl, hbl, hr⟩ := words_row HA2.out (by omega)
      have o0 : wr.cell? ⟨b, off + k, none⟩ = some (.string ⟨(sortedL[k]).toArray⟩) := by
        have := (hbr.cell (p := ⟨b, off + k, none⟩) hbl).trans (hr k hkn)
        rwa [getElem!_pos sortedL k hkv] at this
      have hpa := fun W => pre_any ⟨(sortedL[k]).toArray⟩ s W
      have hpe : Lib.hasPrefix (⟨(sortedL[k]).toArray⟩ : ByteArray).data.toList s.data.toList = pre s sortedL[k] := rfl
      rw [hpe] at hpa
      have htf := take_filterG sortedL s hkv
      have hk0 : (0 : Int) ≤ (k : Int) := by omega
      have hk1 : (k : Int) < 10 := by omega
      have henc : encStr sortedL[k] = .string ⟨(sortedL[k]).toArray⟩ := rfl
      have hsn := wordV_snoc ((sortedL.take k).filter (pre s)) sortedL[k]
      rw [henc] at hsn
      generalize (⟨(sortedL[k]).toArray⟩ : ByteArray) = sv at *
      cases hp : pre s sortedL[k] with
      | true =>
        rw [hp] at hpa htf
        rw [if_pos rfl] at htf
        rw [← htf] at hsn
        have HP := Lib.hid hpa
        have HSN := Lib.hid hsn
        have HTF := Lib.hid htf
        clear hpa hsn htf hpe hp henc hbr hr
        go_wp2_with (first
          | (go_at_call 6; go_loud (refine (HP.out _).mono ?_; rintro e w3 ⟨rfl, rfl⟩))
          | (at_builtin; go_loud (refine wpList_append_oneN wr wr.heap.size rfl #[.string sv] rfl (.tmp 25) (.tmp 27) 22 rfl w2.heap.size 9 i0 (.string ByteArray.empty) 1 16 Try.underlying22 J0 J1 J2 J3 rfl (by decide) (.slice V m cv) m _ rfl HOW.out rfl rfl (by simp [Value.oneCell']) (by omega) (by decide) (by omega) ?_); intro g3 cap3 w6 hv6 hg6 hat6 hlt6))
        go_roundw
        case rel => exact ⟨k + 1, m + 1, by omega, by rw [HTF.out, List.length_append, ← HM.out]; rfl, by go_num, by rw [← HSN.out]; exact hv6, below_app HBR.out hzr HOW.out (Nat.le_refl _) hg6⟩
        case measure => simp [intOf]; omega
      | false =>
        rw [hp] at hpa htf
        rw [if_neg (by decide)] at htf
        have HP := Lib.hid hpa
        have HTF := Lib.hid htf
        clear hpa hsn htf hpe hp henc hbr hr
        go_wp2_with (go_at_call 6; go_loud (refine (HP.out _).mono ?_; rintro e w3 ⟨rfl, rfl⟩))
        go_roundw
        case rel => exact ⟨k + 1, m, by omega, by rw [HTF.out]; exact HM.out, by go_num, by rw [HTF.out]; exact HOW.out, HBR.out⟩
        case measure => simp [intOf]; omega
    · obtain rfl : k = 10 := by omega
      have htk : (sortedL.take 10).filter (pre s) = comp s := sorted_filter s
      have hcl : (comp s).length = m := by rw [HM.out, htk]
      rw [hcl] at HC1
      have HW : Hid (Sl wr wr.heap.size 1 V m (rowW (comp s))) := Lib.hid (by
        have h := HOW.out
        rw [htk] at h
        have hf : wordV (comp s) = flatR (rowW (comp s)) m := by
          rw [← hcl]
          refine List.ext_getElem? fun i => ?_
          by_cases hi : i < (comp s).length
          · have := flatR_get (row := rowW (comp s)) (k := 1) (comp s).length (fun _ _ => rfl) i 0 hi (by omega)
            rw [Nat.mul_one, Nat.add_zero] at this
            rw [this]
            simp [wordV, rowW, hi]
          · rw [List.getElem?_eq_none (by rw [wordV_len]; omega), List.getElem?_eq_none (by rw [flatR_len (k := 1) _ (fun _ _ => rfl)]; omega)]
        rw [hf] at h
        exact Sl_flat (fun _ _ => rfl) h)
      clear htk hcl hbr
      go_wp2_with (first
        | (go_at_call 4; go_loud (refine (HC1.out _).mono ?_; rintro e w7 ⟨A7, c7, rfl, hA7, hb7⟩; have HA7 := Lib.hid hA7; have HB7 := Lib.hid hb7; clear hA7 hb7))
        | (go_at_call 7; go_loud (refine (EqualW A7 V (comp s) m c7 cv w7.heap.size w7 HA7.out ((HW.out.below HB7.out).more HB7.out.size) (by omega)).mono ?_; rintro e w8 ⟨rfl, q8, rfl⟩)))
      go_ret
      exact ⟨rfl, HB2.out.trans ((HBR.out.trans ((below_drewN HB7.out q8).mono hzr)).mono HB2.out.size)⟩
end Go.Proofs.Ytdlifdmnfbjokaa
