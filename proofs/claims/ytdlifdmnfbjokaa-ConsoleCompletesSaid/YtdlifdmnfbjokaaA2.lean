/- Package console: Complete. -/
import Derived.Test.YtdlifdmnfbjokaaA1
namespace Go.Proofs.Ytdlifdmnfbjokaa
open Go.RowKit Go.Sort

theorem str_info : (Try.prog.info? 9).map (fun i => (i.zero, i.size, i.bytes)) = some (some (.string ByteArray.empty), 1, 16) := by kernel_rfl
def rowW (l : List (List UInt8)) (i : Nat) : List Value := [encStr l[i]!]
def pre (s : ByteArray) (v : List UInt8) : Bool := Lib.hasPrefix v s.data.toList
def comp (s : ByteArray) : List (List UInt8) := (verbsL.filter (pre s)).mergeSort le
theorem comp_len (s : ByteArray) : (comp s).length = (verbsL.filter (pre s)).length := by simp [comp]
theorem take_filter (s : ByteArray) {k : Nat} (hk : k < verbsL.length) : (verbsL.take (k + 1)).filter (pre s) = if pre s verbsL[k] = true then (verbsL.take k).filter (pre s) ++ [verbsL[k]] else (verbsL.take k).filter (pre s) := by
  rw [List.take_succ_eq_append_getElem hk, List.filter_append]
  by_cases h : pre s verbsL[k] = true
  · simp [h]
  · simp [h]

set_option maxRecDepth 100000 in
set_option maxHeartbeats 4000000 in
theorem Complete_any (s : ByteArray) (w : World) : Calls Try.prog 4 #[.string s] w fun e w' => ∃ A c, e = .returned (.slice A (comp s).length c) ∧ Sl w' w'.heap.size 1 A (comp s).length (rowW (comp s)) ∧ Below w.heap.size w w' := by
  obtain ⟨i0, J0, J1, J2, J3⟩ := info_parts str_info
  go_enter Try.func4, Try.ntmps4
  go_wp2_with (go_at_call 8; go_loud (refine (verbs_any _).mono ?_; rintro e w1 ⟨rfl, rfl⟩))
  have hb : w.heap.size < (w.alloc (.cells (wordV verbsL).toArray 9)).heap.size := by simp
  have hrow := heap_alloc_new w (.cells (wordV verbsL).toArray 9)
  have hbel : Below w.heap.size w (w.alloc (.cells (wordV verbsL).toArray 9)) := (Below.refl _ _).alloc (Nat.le_refl _) _
  generalize w.alloc (.cells (wordV verbsL).toArray 9) = w1 at *
  have HBL := Lib.hid hbel
  have HRW := Lib.hid hrow
  clear hbel hrow
  go_loopw [3, 8] (fun v x wr => ∃ k m : Nat, k ≤ 10 ∧ m = ((verbsL.take k).filter (pre s)).length ∧ x = .int .i64 k ∧ wr.ownsRow w1.heap.size 9 1 v m (wordV ((verbsL.take k).filter (pre s))) ∧ Below w1.heap.size w1 wr) (fun _ x _ => 10 - (intOf x).toNat)
  case atStart => exact ⟨0, 0, by omega, rfl, rfl, World.ownsRow_nil _ _ _ _, Below.refl _ _⟩
  case round =>
    obtain ⟨k, m, hk, hm, rfl, hown, hbr⟩ := hrel
    obtain ⟨V, cv, rfl⟩ := own_shape hown
    have HOW := Lib.hid hown
    have HBR := Lib.hid hbr
    have HM := Lib.hid hm
    have hzr := hbr.size
    have hm10 : m ≤ 10 := by
      rw [hm]
      exact Nat.le_trans (List.length_filter_le _ _) (by rw [List.length_take]; omega)
    clear hown hm
    by_cases hkn : k < 10
    · have hkv : k < verbsL.length := hkn
      have o0 : wr.cell? ⟨w.heap.size, k, none⟩ = some (.string ⟨(verbsL[k]).toArray⟩) := by
        refine (hbr.cell (p := ⟨w.heap.size, k, none⟩) hb).trans ((cell_of_row w1 w.heap.size k _ 9 (0, 0) HRW.out).trans ?_)
        simp [wordV, hkv]
      have hpa := fun W => pre_any ⟨(verbsL[k]).toArray⟩ s W
      have hpe : Lib.hasPrefix (⟨(verbsL[k]).toArray⟩ : ByteArray).data.toList s.data.toList = pre s verbsL[k] := rfl
      rw [hpe] at hpa
      have htf := take_filter s hkv
      have hk0 : (0 : Int) ≤ (k : Int) := by omega
      have hk1 : (k : Int) < 10 := by omega
      have henc : encStr verbsL[k] = .string ⟨(verbsL[k]).toArray⟩ := rfl
      have hsn := wordV_snoc ((verbsL.take k).filter (pre s)) verbsL[k]
      rw [henc] at hsn
      generalize (⟨(verbsL[k]).toArray⟩ : ByteArray) = sv at *
      cases hp : pre s verbsL[k] with
      | true =>
        rw [hp] at hpa htf
        rw [if_pos rfl] at htf
        rw [← htf] at hsn
        have HP := Lib.hid hpa
        have HSN := Lib.hid hsn
        have HTF := Lib.hid htf
        clear hpa hsn htf hpe hp henc hbr
        go_wp2_with (first
          | (go_at_call 6; go_loud (refine (HP.out _).mono ?_; rintro e w2 ⟨rfl, rfl⟩))
          | (at_builtin; go_loud (refine wpList_append_oneN wr wr.heap.size rfl #[.string sv] rfl (.tmp 15) (.tmp 17) 22 rfl w1.heap.size 9 i0 (.string ByteArray.empty) 1 16 Try.underlying22 J0 J1 J2 J3 rfl (by decide) (.slice V m cv) m _ rfl HOW.out rfl rfl (by simp [Value.oneCell']) (by omega) (by decide) (by omega) ?_); intro g3 cap3 w6 hv6 hg6 hat6 hlt6))
        go_roundw
        case rel => exact ⟨k + 1, m + 1, by omega, by rw [HTF.out, List.length_append, ← HM.out]; rfl, by go_num, by rw [← HSN.out]; exact hv6, below_app HBR.out hzr HOW.out (Nat.le_refl _) hg6⟩
        case measure => simp [intOf]; omega
      | false =>
        rw [hp] at hpa htf
        rw [if_neg (by decide)] at htf
        have HP := Lib.hid hpa
        have HTF := Lib.hid htf
        clear hpa hsn htf hpe hp henc hbr
        go_wp2_with (go_at_call 6; go_loud (refine (HP.out _).mono ?_; rintro e w2 ⟨rfl, rfl⟩))
        go_roundw
        case rel => exact ⟨k + 1, m, by omega, by rw [HTF.out]; exact HM.out, by go_num, by rw [HTF.out]; exact HOW.out, HBR.out⟩
        case measure => simp [intOf]; omega
    · obtain rfl : k = 10 := by omega
      have htk : verbsL.take 10 = verbsL := rfl
      have hcl : (comp s).length = m := by rw [comp_len, HM.out, htk]
      have HCL := Lib.hid hcl
      have HO2 : Hid (wr.ownsRow w1.heap.size 9 1 (.slice V m cv) m (wordV (verbsL.filter (pre s)))) := Lib.hid (by have := HOW.out; rwa [htk] at this)
      clear htk hcl hbr
      by_cases hm0 : m = 0
      · subst hm0
        have hso : Calls Try.prog 9 #[.slice V 0 cv] wr fun e w' => e = .returned (.tuple #[]) ∧ wr = w' := (Any.slices_Sort_string_none Try.lays190 V cv wr).mono fun _ _ h => ⟨h.1, h.2.symm⟩
        have HSO := Lib.hid hso
        clear hso
        go_wp2_with (go_at_call 9; go_loud (refine HSO.out.mono ?_; rintro e w3 ⟨rfl, rfl⟩))
        go_ret
        exact ⟨V, cv, by rw [HCL.out]; rfl, fun h => absurd h (by rw [HCL.out]; omega), HBL.out.trans (show Below w.heap.size w1 wr from HBR.out.mono (by omega))⟩
      · obtain ⟨g, cap, hlv, hgl, hltl⟩ := HO2.out.form (by omega)
        obtain rfl : V = some ⟨g, 0, none⟩ := (Value.slice.inj hlv).1
        have hso := Sort_words g cv w1.heap.size (verbsL.filter (pre s)) m wr (by rw [← comp_len]; exact HCL.out) HO2.out (by omega)
        have HSO := Lib.hid hso
        clear hso hlv
        go_wp2_with (go_at_call 9; go_loud (refine HSO.out.mono ?_; rintro e w3 ⟨rfl, hc3, hl3, hb3⟩))
        go_ret
        refine ⟨some ⟨g, 0, none⟩, cv, by rw [HCL.out]; rfl, fun _ => ⟨g, 0, rfl, hl3, fun i hi j u hu => ?_⟩, HBL.out.trans ((HBR.out.mono (by omega)).trans (hb3 w.heap.size (by omega) (by omega)))⟩
        rw [HCL.out] at hi
        have hj : j = 0 := by
          rcases j with _ | j
          · rfl
          · simp [rowW] at hu
        subst hj
        have := hc3 i hi
        simp [rowW] at hu
        subst hu
        simpa [comp] using this
end Go.Proofs.Ytdlifdmnfbjokaa
