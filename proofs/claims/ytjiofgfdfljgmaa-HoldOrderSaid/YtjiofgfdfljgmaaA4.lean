/- Package hold: Enter, refused. -/
import Derived.Test.YtjiofgfdfljgmaaA3
namespace Go.Proofs.Ytjiofgfdfljgmaa
open Go.RowKit

def Refused (w : World) (e : Ending) (w' : World) : Prop := ∃ c : Int, c ≠ 0 ∧ e = .returned (.tuple #[.int .i64 0, .int .i64 c]) ∧ Below w.heap.size w w'

set_option maxRecDepth 100000 in
set_option maxHeartbeats 8000000 in
theorem Enter_no {g : Nat} {lo hi st now : Int} {v : Value} {ls : List Lv} {w : World} (h : StackAt g lo hi st now v ls w) (call : ByteArray) (t : Int) (hs : call.size ≤ maxLen) (hn : ls.length ≤ 1000) (hb : -1000000 ≤ topH lo st ls ∧ topH lo st ls ≤ 1000000)
    (hst : 0 ≤ st ∧ st ≤ 10000) (hno : entB now hi lo st t ls call = false) :
    Calls Try.prog 9 #[.pointer (some ⟨g, 0, none⟩), .string call, .int .i64 t] w (Refused w) := by
  have hok : nameB call = true → idxL ls call < 0 → wrongB now t = false → hi < topH lo st ls := fun a b c => by
    unfold entB at hno
    rw [a, c] at hno
    simp [b] at hno
    omega
  obtain ⟨A, c, rfl⟩ := h.shape
  have c0 := h.cell 0
  have c1 := h.cell 1
  have c2 := h.cell 2
  have c3 := h.cell 3
  have c4 := h.cell 4
  have hlt := h.lt
  clear hno
  rcases List.eq_nil_or_concat ls with hl | ⟨l', x, hl⟩
  · subst hl
    have c3 : w.cell? ⟨g, 3, none⟩ = some (.slice A 0 c) := c3
    have hok : nameB call = true → idxL [] call < 0 → wrongB now t = false → hi < lo := hok
    have HH := Lib.hid h
    generalize hgx : idxL [] call = ix at *
    have HIX := Lib.hid hgx
    clear h hgx hn hb
    cases hnm : nameB call with
    | false =>
      have HNM := Lib.hid hnm; clear hnm hok
      go_enter Try.func9, Try.ntmps9
      go_wp2_with (first
        | (go_at_call 17; go_loud (refine (Name_any call _ hs).mono ?_; rintro e w1 ⟨he1, hb1⟩; rw [HNM.out] at he1; subst he1; obtain ⟨hc1, hf1⟩ := bcell hb1; have HS1 := Lib.hid (HH.out.below hb1); have hg1 := HS1.out.lt))
        | (go_at_call 18; go_loud (refine (index_any HS1.out call).mono ?_; rintro e w2 ⟨he2, hb2⟩; rw [HIX.out] at he2; subst he2; obtain ⟨hc2, hf2⟩ := bcell hb2; have HS2 := Lib.hid (HS1.out.below hb2); have hg2 := HS2.out.lt))
        | (go_at_call 19; go_loud (refine (wrong_any HS2.out t).mono ?_; rintro e w3 ⟨he3, rfl⟩; rw [HWR.out] at he3; subst he3)))
      go_ret2
      exact ⟨6, by decide, rfl, hb1⟩

    | true =>
      have HNM := Lib.hid hnm
      by_cases hix : 0 ≤ ix
      · clear hnm hok
        go_enter Try.func9, Try.ntmps9
        go_wp2_with (first
          | (go_at_call 17; go_loud (refine (Name_any call _ hs).mono ?_; rintro e w1 ⟨he1, hb1⟩; rw [HNM.out] at he1; subst he1; obtain ⟨hc1, hf1⟩ := bcell hb1; have HS1 := Lib.hid (HH.out.below hb1); have hg1 := HS1.out.lt))
          | (go_at_call 18; go_loud (refine (index_any HS1.out call).mono ?_; rintro e w2 ⟨he2, hb2⟩; rw [HIX.out] at he2; subst he2; obtain ⟨hc2, hf2⟩ := bcell hb2; have HS2 := Lib.hid (HS1.out.below hb2); have hg2 := HS2.out.lt))
          | (go_at_call 19; go_loud (refine (wrong_any HS2.out t).mono ?_; rintro e w3 ⟨he3, rfl⟩; rw [HWR.out] at he3; subst he3)))
        go_ret2
        exact ⟨7, by decide, rfl, hb1.trans (hb2.mono hb1.size)⟩

      · cases hwr : wrongB now t with
        | true =>
          have HWR := Lib.hid hwr; clear hnm hwr hok
          go_enter Try.func9, Try.ntmps9
          go_wp2_with (first
            | (go_at_call 17; go_loud (refine (Name_any call _ hs).mono ?_; rintro e w1 ⟨he1, hb1⟩; rw [HNM.out] at he1; subst he1; obtain ⟨hc1, hf1⟩ := bcell hb1; have HS1 := Lib.hid (HH.out.below hb1); have hg1 := HS1.out.lt))
            | (go_at_call 18; go_loud (refine (index_any HS1.out call).mono ?_; rintro e w2 ⟨he2, hb2⟩; rw [HIX.out] at he2; subst he2; obtain ⟨hc2, hf2⟩ := bcell hb2; have HS2 := Lib.hid (HS1.out.below hb2); have hg2 := HS2.out.lt))
            | (go_at_call 19; go_loud (refine (wrong_any HS2.out t).mono ?_; rintro e w3 ⟨he3, rfl⟩; rw [HWR.out] at he3; subst he3)))
          go_ret2
          exact ⟨12, by decide, rfl, hb1.trans (hb2.mono hb1.size)⟩

        | false =>
          have htop := hok hnm (by omega) hwr
          have HWR := Lib.hid hwr; clear hnm hwr hok
          go_enter Try.func9, Try.ntmps9
          go_wp2_with (first
            | (go_at_call 17; go_loud (refine (Name_any call _ hs).mono ?_; rintro e w1 ⟨he1, hb1⟩; rw [HNM.out] at he1; subst he1; obtain ⟨hc1, hf1⟩ := bcell hb1; have HS1 := Lib.hid (HH.out.below hb1); have hg1 := HS1.out.lt))
            | (go_at_call 18; go_loud (refine (index_any HS1.out call).mono ?_; rintro e w2 ⟨he2, hb2⟩; rw [HIX.out] at he2; subst he2; obtain ⟨hc2, hf2⟩ := bcell hb2; have HS2 := Lib.hid (HS1.out.below hb2); have hg2 := HS2.out.lt))
            | (go_at_call 19; go_loud (refine (wrong_any HS2.out t).mono ?_; rintro e w3 ⟨he3, rfl⟩; rw [HWR.out] at he3; subst he3)))
          go_ret2
          exact ⟨9, by decide, rfl, hb1.trans (hb2.mono hb1.size)⟩

  · rw [List.concat_eq_append] at hl
    subst hl
    have hlen' : (l' ++ [x]).length = l'.length + 1 := by simp
    have c3 : w.cell? ⟨g, 3, none⟩ = some (.slice A (l'.length + 1) c) := by
      have h3 : w.cell? ⟨g, 3, none⟩ = some (.slice A (l' ++ [x]).length c) := c3
      rw [hlen'] at h3; exact h3
    have htp : topH lo st (l' ++ [x]) = x.2.1 + st := topH_snoc lo st l' x
    rw [htp] at hok hb
    have HH := Lib.hid h
    generalize hgx : idxL (l' ++ [x]) call = ix at *
    have HIX := Lib.hid hgx
    obtain ⟨b, off, rfl, hbl, hr⟩ := h.row (by omega)
    have hx := hr l'.length (by omega) 1 (.int .i64 x.2.1) (by show (lvV (l' ++ [x])[l'.length]!)[1]? = _; rw [getElem!_pos _ l'.length (by simp), List.getElem_append_right (Nat.le_refl _)]; simp [lvV])
    have hm0 : (0 : Int) ≤ (l'.length : Int) := by omega
    have hmw : IntKind.i64.wrap ((l'.length : Int) + 1 - 1) = (l'.length : Int) := by rw [IntWalk.i64_in _ (by omega)]; omega
    have hm1 : (l'.length : Int) < (l'.length : Int) + 1 := by omega
    have hsw : IntKind.i64.wrap (x.2.1 + st) = x.2.1 + st := IntWalk.i64_in _ (by omega)
    have hn' : l'.length ≤ 1000 := by omega
    clear h hgx hn hr hlen' htp
    cases hnm : nameB call with
    | false =>
      have HNM := Lib.hid hnm; clear hnm hok
      go_enter Try.func9, Try.ntmps9
      go_wp2_with fail
      go_quiet (fail)
      go_wp2_with (first
        | (go_at_call 17; go_loud (refine (Name_any call _ hs).mono ?_; rintro e w1 ⟨he1, hb1⟩; rw [HNM.out] at he1; subst he1; have hb1 : Below w.heap.size w w1 := (below_drewN (Below.refl w.heap.size w) nq).trans hb1; obtain ⟨hc1, hf1⟩ := bcell hb1; have HS1 := Lib.hid (HH.out.below hb1); have hg1 := HS1.out.lt))
        | (go_at_call 18; go_loud (refine (index_any HS1.out call).mono ?_; rintro e w2 ⟨he2, hb2⟩; rw [HIX.out] at he2; subst he2; obtain ⟨hc2, hf2⟩ := bcell hb2; have HS2 := Lib.hid (HS1.out.below hb2); have hg2 := HS2.out.lt))
        | (go_at_call 19; go_loud (refine (wrong_any HS2.out t).mono ?_; rintro e w3 ⟨he3, rfl⟩; rw [HWR.out] at he3; subst he3)))
      go_ret2
      exact ⟨6, by decide, rfl, hb1⟩

    | true =>
      have HNM := Lib.hid hnm
      by_cases hix : 0 ≤ ix
      · clear hnm hok
        go_enter Try.func9, Try.ntmps9
        go_wp2_with fail
        go_quiet (fail)
        go_wp2_with (first
          | (go_at_call 17; go_loud (refine (Name_any call _ hs).mono ?_; rintro e w1 ⟨he1, hb1⟩; rw [HNM.out] at he1; subst he1; have hb1 : Below w.heap.size w w1 := (below_drewN (Below.refl w.heap.size w) nq).trans hb1; obtain ⟨hc1, hf1⟩ := bcell hb1; have HS1 := Lib.hid (HH.out.below hb1); have hg1 := HS1.out.lt))
          | (go_at_call 18; go_loud (refine (index_any HS1.out call).mono ?_; rintro e w2 ⟨he2, hb2⟩; rw [HIX.out] at he2; subst he2; obtain ⟨hc2, hf2⟩ := bcell hb2; have HS2 := Lib.hid (HS1.out.below hb2); have hg2 := HS2.out.lt))
          | (go_at_call 19; go_loud (refine (wrong_any HS2.out t).mono ?_; rintro e w3 ⟨he3, rfl⟩; rw [HWR.out] at he3; subst he3)))
        go_ret2
        exact ⟨7, by decide, rfl, hb1.trans (hb2.mono hb1.size)⟩

      · cases hwr : wrongB now t with
        | true =>
          have HWR := Lib.hid hwr; clear hnm hwr hok
          go_enter Try.func9, Try.ntmps9
          go_wp2_with fail
          go_quiet (fail)
          go_wp2_with (first
            | (go_at_call 17; go_loud (refine (Name_any call _ hs).mono ?_; rintro e w1 ⟨he1, hb1⟩; rw [HNM.out] at he1; subst he1; have hb1 : Below w.heap.size w w1 := (below_drewN (Below.refl w.heap.size w) nq).trans hb1; obtain ⟨hc1, hf1⟩ := bcell hb1; have HS1 := Lib.hid (HH.out.below hb1); have hg1 := HS1.out.lt))
            | (go_at_call 18; go_loud (refine (index_any HS1.out call).mono ?_; rintro e w2 ⟨he2, hb2⟩; rw [HIX.out] at he2; subst he2; obtain ⟨hc2, hf2⟩ := bcell hb2; have HS2 := Lib.hid (HS1.out.below hb2); have hg2 := HS2.out.lt))
            | (go_at_call 19; go_loud (refine (wrong_any HS2.out t).mono ?_; rintro e w3 ⟨he3, rfl⟩; rw [HWR.out] at he3; subst he3)))
          go_ret2
          exact ⟨12, by decide, rfl, hb1.trans (hb2.mono hb1.size)⟩

        | false =>
          have htop := hok hnm (by omega) hwr
          have HWR := Lib.hid hwr; clear hnm hwr hok
          go_enter Try.func9, Try.ntmps9
          go_wp2_with fail
          go_quiet (fail)
          go_wp2_with (first
            | (go_at_call 17; go_loud (refine (Name_any call _ hs).mono ?_; rintro e w1 ⟨he1, hb1⟩; rw [HNM.out] at he1; subst he1; have hb1 : Below w.heap.size w w1 := (below_drewN (Below.refl w.heap.size w) nq).trans hb1; obtain ⟨hc1, hf1⟩ := bcell hb1; have HS1 := Lib.hid (HH.out.below hb1); have hg1 := HS1.out.lt))
            | (go_at_call 18; go_loud (refine (index_any HS1.out call).mono ?_; rintro e w2 ⟨he2, hb2⟩; rw [HIX.out] at he2; subst he2; obtain ⟨hc2, hf2⟩ := bcell hb2; have HS2 := Lib.hid (HS1.out.below hb2); have hg2 := HS2.out.lt))
            | (go_at_call 19; go_loud (refine (wrong_any HS2.out t).mono ?_; rintro e w3 ⟨he3, rfl⟩; rw [HWR.out] at he3; subst he3)))
          go_ret2
          exact ⟨9, by decide, rfl, hb1.trans (hb2.mono hb1.size)⟩

end Go.Proofs.Ytjiofgfdfljgmaa
