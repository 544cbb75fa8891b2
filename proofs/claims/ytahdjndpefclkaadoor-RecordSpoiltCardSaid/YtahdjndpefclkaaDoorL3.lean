/- Package record: Add, whatever it does; what a sound log is. -/
import Derived.Test.YtahdjndpefclkaaDoorL2
namespace Go.Proofs.YtahdjndpefclkaaDoor
open Go.RowKit
open Go.Lib hiding intOf

def NoAdd (cd : Int) (w : World) (y : Ending) (w' : World) : Prop := y = .returned (.tuple #[.int .i64 0, .int .i64 cd]) ∧ Below w.heap.size w w'

set_option maxRecDepth 100000 in
set_option maxHeartbeats 4000000 in
theorem Add_no {g c : Nat} {A : Option Addr} {l : List Ent} {w : World} (h : LogA g A c l w) (t : Int) (k x : ByteArray) (hw : Wf (newE l t k x)) (hc : addC l t k x ≠ 0) (hl : l.length ≤ 400) :
    Calls Tryd.prog 17 #[.pointer (some ⟨g, 0, none⟩), .int .i64 t, .string k, .string x] w (NoAdd (addC l t k x) w) := by
  have HC := Lib.hid (fun W => Check_any _ W hw)
  unfold valE at HC
  have cg := h.cell
  have hg := h.lt
  have hn5 : ¬ l.length = 500 := by omega
  have hbn : Below w.heap.size w (w.alloc (.cells #[.int .i64 ((l.length : Int) + 1), .int .i64 t, .string k, .string x] 23)) := (Below.refl _ _).alloc (Nat.le_refl _) _
  have HBn := Lib.hid hbn
  have hts : (w.alloc (.cells #[.int .i64 ((l.length : Int) + 1), .int .i64 t, .string k, .string x] 23)).heap.size = w.heap.size + 1 := World.size_alloc _ _
  have HTs := Lib.hid hts
  have HL := Lib.hid h
  by_cases h0 : chk (newE l t k x) = 0
  · have hlt2 : 0 < l.length ∧ t < lastT l := by
      unfold addC at hc
      rw [if_neg (by simp [h0])] at hc
      by_cases h1 : 0 < l.length ∧ t < lastT l
      · exact h1
      · rw [if_neg h1] at hc; exact absurd rfl hc
    have hcd : addC l t k x = 12 := by unfold addC; rw [if_neg (by simp [h0]), if_pos hlt2]
    rw [h0] at HC
    rw [hcd]
    unfold newE at HC
    simp only at HC
    obtain ⟨e, he, hle⟩ := last_some hlt2.1
    obtain ⟨m, hm⟩ : ∃ m, l.length - 1 = m := ⟨_, rfl⟩
    have hlt : t < e.time := by rw [← hle]; exact hlt2.2
    rw [hm] at he
    have hz0 : 0 < l.length := hlt2.1
    have hji : (l.length : Int) - 1 = (m : Int) := by omega
    have hiw : IntKind.i64.wrap (m : Int) = (m : Int) := IntWalk.i64_in _ (by omega)
    have hm0 : (0 : Int) ≤ (m : Int) := by omega
    have hml' : (m : Int) < (l.length : Int) := by omega
    have hml : m < l.length := by omega
    have dl : decide (t < e.time) = true := by simp; omega
    clear hbn hts hc h0 hlt2 hcd hle hm h
    go_enter Tryd.func17, Tryd.ntmps17
    go_wp2_with fail
    refine (HC.out _).mono ?_
    rintro e' w1 ⟨rfl, hb1⟩
    have hB1 : Below w.heap.size w w1 := HBn.out.trans (hb1.mono (by rw [HTs.out]; omega))
    have hL1 := HL.out.below hB1
    have cg1 := hL1.cell
    obtain ⟨b, hAb, hgb, hbl, _, q5, _, _⟩ := hL1.ent he
    subst hAb
    have HB1 := Lib.hid hB1
    clear hL1 hB1 hb1
    go_wp2
    go_ret2
    exact ⟨rfl, HB1.out⟩
  · have hcd : addC l t k x = chk (newE l t k x) := by unfold addC; rw [if_pos h0]
    rw [hcd]
    obtain ⟨cd, hcc⟩ : ∃ cd, chk (newE l t k x) = cd := ⟨_, rfl⟩
    rw [hcc] at HC h0 ⊢
    have d2 : (cd != 0) = true := by simp [h0]
    unfold newE at HC
    simp only at HC
    clear hbn hts hc h0 hcd hcc h
    go_enter Tryd.func17, Tryd.ntmps17
    go_wp2_with fail
    refine (HC.out _).mono ?_
    rintro e' w1 ⟨rfl, hb1⟩
    have hB1 : Below w.heap.size w w1 := HBn.out.trans (hb1.mono (by rw [HTs.out]; omega))
    go_wp2
    go_ret2
    exact ⟨rfl, hB1⟩

/-- A sound log: its entries have their numbers, and the times do not decrease. -/
def LogOk (l : List Ent) : Prop := (∀ (i : Nat) (e : Ent), l[i]? = some e → e.num = (i : Int) + 1 ∧ Ok e) ∧ ∀ (i : Nat) (e e' : Ent), l[i]? = some e → l[i + 1]? = some e' → e.time ≤ e'.time

theorem LogOk.nil : LogOk [] := ⟨fun i e h => by simp at h, fun i e e' h => by simp at h⟩

theorem LogOk.snoc {l : List Ent} {e : Ent} (h : LogOk l) (hn : e.num = (l.length : Int) + 1) (ho : Ok e) (ht : 0 < l.length → lastT l ≤ e.time) : LogOk (l ++ [e]) := by
  refine ⟨fun i x hx => ?_, fun i x y hx hy => ?_⟩
  · by_cases hi : i < l.length
    · rw [List.getElem?_append_left hi] at hx; exact h.1 i x hx
    · rw [List.getElem?_append_right (by omega)] at hx
      have : i - l.length = 0 := by
        have := (List.getElem?_eq_some_iff.1 hx).1
        simp at this; omega
      rw [this] at hx
      simp at hx
      subst hx
      exact ⟨by rw [hn]; omega, ho⟩
  · by_cases hi : i + 1 < l.length
    · rw [List.getElem?_append_left (by omega)] at hx
      rw [List.getElem?_append_left hi] at hy
      exact h.2 i x y hx hy
    · have hil : i + 1 = l.length := by
        have := (List.getElem?_eq_some_iff.1 hy).1
        simp at this; omega
      rw [List.getElem?_append_left (by omega)] at hx
      rw [List.getElem?_append_right (by omega), hil, Nat.sub_self] at hy
      simp at hy
      subst hy
      have := ht (by omega)
      unfold lastT at this
      rw [show l.length - 1 = i by omega, hx] at this
      exact this

theorem addC_ok {l : List Ent} {t : Int} {k x : ByteArray} (h : addC l t k x = 0) (hl : LogOk l) : LogOk (l ++ [newE l t k x]) := by
  have h0 : chk (newE l t k x) = 0 := by
    unfold addC at h
    by_cases h0 : chk (newE l t k x) = 0
    · exact h0
    · rw [if_pos h0] at h; exact absurd h h0
  refine hl.snoc rfl (chk_ok.1 h0) fun hp => ?_
  unfold addC at h
  rw [if_neg (by simp [h0])] at h
  by_cases h1 : 0 < l.length ∧ t < lastT l
  · rw [if_pos h1] at h; cases h
  · show lastT l ≤ t
    have : ¬ t < lastT l := fun h2 => h1 ⟨hp, h2⟩
    omega
end Go.Proofs.YtahdjndpefclkaaDoor
