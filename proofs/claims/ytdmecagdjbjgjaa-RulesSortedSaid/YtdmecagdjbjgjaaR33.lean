/- several: the rules out of a list of numbers. -/
import Derived.Test.YtdmecagdjbjgjaaR32
import Derived.Test.YtdmecagdjbjgjaaCut
namespace Go.Proofs.Ytdmecagdjbjgjaa
open Go.RowKit

theorem rule_info : (Try.prog.info? 30).map (fun i => (i.zero, i.size, i.bytes)) = some (some .nilIface, 1, 16) := by kernel_rfl

set_option maxHeartbeats 4000000 in
theorem LowB_any (h lv : Int) (w : World) (hh : 0 ≤ h ∧ h ≤ 60000) (hl : 0 ≤ lv ∧ lv ≤ 9) :
    Calls Try.prog 22 #[.int .i64 h, .int .i64 lv] w fun e w' => (e = .returned (.tuple #[.iface 113 (.agg #[.string ⟨#[108, 111, 119]⟩, .int .i64 lv, .func (.func 41) #[] #[.pointer (some ⟨w.heap.size, 0, none⟩)]]), .int .i64 0]) ∧ w'.heap[w.heap.size]? = some (.cells #[.int .i64 h] 3 (0, 0)) ∧ w.heap.size < w'.heap.size) ∧ Below w.heap.size w w' := by
  have HW := Lib.hid (fun W => wrong_any lv W)
  rw [show (decide (lv < 0) || decide ((9 : Int) < lv)) = false by simp; omega] at HW
  have t1 : decide (h < 0) = false := decide_eq_false (by omega)
  have t2 : decide ((60000 : Int) < h) = false := decide_eq_false (by omega)
  have HO := Lib.hid (fun t f a b W => one_any t lv f a b W)
  clear hh hl
  go_enter Try.func22, Try.ntmps22
  go_wp2_with (first
    | (go_at_call 20; go_loud (refine (HW.out _).mono ?_; rintro E w2 ⟨rfl, rfl⟩))
    | (go_at_call 40; go_loud (refine (HO.out _ _ _ _ _).mono ?_; rintro E w2 ⟨rfl, rfl⟩)))
  go_ret2
  exact ⟨⟨rfl, heap_alloc_new _ _, by simp⟩, (Below.refl _ w).alloc (Nat.le_refl _) _⟩

set_option maxHeartbeats 4000000 in
theorem FastB_any (h lv : Int) (w : World) (hh : 0 ≤ h ∧ h ≤ 400) (hl : 0 ≤ lv ∧ lv ≤ 9) :
    Calls Try.prog 30 #[.int .i64 h, .int .i64 lv] w fun e w' => (e = .returned (.tuple #[.iface 113 (.agg #[.string ⟨#[102, 97, 115, 116]⟩, .int .i64 lv, .func (.func 46) #[] #[.pointer (some ⟨w.heap.size, 0, none⟩)]]), .int .i64 0]) ∧ w'.heap[w.heap.size]? = some (.cells #[.int .i64 h] 3 (0, 0)) ∧ w.heap.size < w'.heap.size) ∧ Below w.heap.size w w' := by
  have HW := Lib.hid (fun W => wrong_any lv W)
  rw [show (decide (lv < 0) || decide ((9 : Int) < lv)) = false by simp; omega] at HW
  have t1 : decide (h < 0) = false := decide_eq_false (by omega)
  have t2 : decide ((400 : Int) < h) = false := decide_eq_false (by omega)
  have HO := Lib.hid (fun t f a b W => one_any t lv f a b W)
  clear hh hl
  go_enter Try.func30, Try.ntmps30
  go_wp2_with (first
    | (go_at_call 20; go_loud (refine (HW.out _).mono ?_; rintro E w2 ⟨rfl, rfl⟩))
    | (go_at_call 40; go_loud (refine (HO.out _ _ _ _ _).mono ?_; rintro E w2 ⟨rfl, rfl⟩)))
  go_ret2
  exact ⟨⟨rfl, heap_alloc_new _ _, by simp⟩, (Below.refl _ w).alloc (Nat.le_refl _) _⟩

/-- What several hands out. -/
def SevP (w : World) (E : Ending) (w' : World) : Prop :=
  ∃ (V : Option Addr) (m cv : Nat) (Rl : List Value), E = .returned (.slice V m cv) ∧ m ≤ 6 ∧ Rl.length = m ∧ w'.ownsRow w.heap.size 30 1 (.slice V m cv) m Rl ∧ (∀ r ∈ Rl, RuM w' (.slice V m cv) r) ∧ Below w.heap.size w w'

set_option maxRecDepth 100000 in
set_option maxHeartbeats 16000000 in
theorem several_any (A : Option Addr) (n c : Nat) (f : Nat → Int) (w : World) (hA : Sl w w.heap.size 1 A n (fun i => [.int .i64 (f i)])) (hnc : n ≤ c) (_hcm : c ≤ maxLen) :
    Calls Try.prog 14 #[.slice A n c] w (SevP w) := by
  unfold SevP
  have HA := Lib.hid hA
  obtain ⟨K, hK⟩ : ∃ K : Nat, min n 6 = K := ⟨_, rfl⟩
  have hK6 : K ≤ 6 := by omega
  have hKn : K ≤ n := by omega
  have hKc : K ≤ c := by omega
  have hmin : min (n : Int) 6 = (K : Int) := by omega
  obtain ⟨i30, E0, E1, E2, E3⟩ := info_parts rule_info
  have hk0 : (0 : Int) ≤ (K : Int) := by omega
  have hkn0 : (K : Int) ≤ (n : Int) := by omega
  clear hA hnc
  go_enter Try.func14, Try.ntmps14
  go_wp2
  go_loopw [3, 15] (fun v x wr => ∃ (k m : Nat) (V : Option Addr) (cv : Nat) (Rl : List Value), k ≤ K ∧ m ≤ k ∧ x = .int .i64 (k : Int) ∧ v = .slice V m cv ∧ Hid (Rl.length = m) ∧ Hid (wr.ownsRow w.heap.size 30 1 (.slice V m cv) m Rl) ∧ Hid (∀ r ∈ Rl, RuM wr (.slice V m cv) r) ∧ Hid (Below w.heap.size w wr)) (fun _ x _ => K - (intOf x).toNat)
  case atStart => exact ⟨0, 0, none, 0, [], by omega, Nat.le_refl _, rfl, rfl, Lib.hid rfl, Lib.hid (World.ownsRow_nil _ _ _ _), Lib.hid (fun r h => by cases h), Lib.hid (Below.refl _ _)⟩
  case round =>
    obtain ⟨k, m, V, cv, Rl, hk, hmk, rfl, rfl, HL, HO, HR, HB⟩ := hrel
    have hzr := HB.out.size
    by_cases hlt : k < K
    · obtain ⟨bb, off, rfl, hbb, hr⟩ := HA.out (by omega)
      have d0 : wr.cell? ⟨bb, off + k, none⟩ = some (.int .i64 (f k)) := (HB.out.cell (p := ⟨bb, off + k, none⟩) hbb).trans (by have := hr k (by omega) 0 _ rfl; rwa [Nat.mul_one, Nat.add_zero] at this)
      have C1 := Lib.hid (fun W => Cut_any (f k) 0 499 W (by omega) (by omega) (by omega))
      have hq := cutI_bd (n := f k) (show (0 : Int) ≤ 499 by omega)
      generalize cutI (f k) 0 499 = q at *
      clear hr
      have l1 : (k : Int) < (K : Int) := by omega
      have l0 : (0 : Int) ≤ (k : Int) := by omega
      have hwk : IntKind.i64.wrap ((k : Int) + 1) = (k : Int) + 1 := IntWalk.i64_in _ (by omega)
      have hm : m ≤ 6 := by omega
      obtain ⟨lv, hlv0⟩ : ∃ lv, q / 5 % 10 = lv := ⟨_, rfl⟩
      have hlv : 0 ≤ lv ∧ lv ≤ 9 := by omega
      have hob : (Value.slice V m cv).ownBlock ≠ some wr.heap.size := fun e => absurd (HO.out.lt _ e).2 (Nat.lt_irrefl _)
      by_cases hj0 : q % 5 = 0
      · have e0 : (q % 5 == 0) = true := by simpa using hj0
        have HC := Lib.hid (fun W => NearL_any (100 * q) (10 * q) lv W (by omega) (by omega) hlv)
        clear hj0
        go_wp2_with (first
          | (go_at_call 7; go_loud (refine (C1.out _).mono ?_; rintro E w2 ⟨rfl, rfl⟩))
          | (go_at_call 8; go_loud (refine (HC.out _).mono ?_; rintro E w2 ⟨rfl, hb2⟩; have hr2 : RuM w2 (.slice V m cv) (.iface 71 (.agg #[.string ⟨#[110, 101, 97, 114]⟩, .int .i64 lv, .int .i64 (100 * q), .int .i64 (10 * q)])) := Or.inl ⟨lv, 100 * q, 10 * q, by omega, by omega, rfl⟩; have HR2 := Lib.hid hr2; have HO2 := Lib.hid (own_below HO.out hb2 (Nat.le_refl _)); have HB2 := Lib.hid hb2; have hz2 := hb2.size; clear hr2 hb2))
          | (at_builtin; go_loud (refine wpList_append_oneN w2 w2.heap.size rfl #[.iface 71 (.agg #[.string ⟨#[110, 101, 97, 114]⟩, .int .i64 lv, .int .i64 (100 * q), .int .i64 (10 * q)])] rfl (.tmp 74) (.tmp 76) 54 rfl w.heap.size 30 i30 .nilIface 1 16 Try.underlying54 E0 E1 E2 E3 rfl (by decide) (.slice V m cv) m Rl rfl HO2.out rfl rfl (by simp [Value.oneCell']) (by omega) (by decide) (by omega) ?_); intro g6 cap6 w6 hv6 hg6 hat6 hlt6))
        go_roundw
        case rel =>
          refine ⟨k + 1, m + 1, some ⟨g6, 0, none⟩, cap6, Rl ++ [.iface 71 (.agg #[.string ⟨#[110, 101, 97, 114]⟩, .int .i64 lv, .int .i64 (100 * q), .int .i64 (10 * q)])], by omega, by omega, by go_num, rfl, ?_, ?_, ?_, ?_⟩
          · exact Lib.hid (by rw [List.length_append, HL.out]; rfl)
          · exact Lib.hid hv6
          · refine Lib.hid (fun r hr => ?_)
            refine RuM.move (w := w2) (v := .slice V m cv) ?_ (fun p o hp hn => bk_app hp hn hg6 hat6)
            rcases List.mem_append.1 hr with h | h
            · exact (HR.out r h).below HB2.out
            · rw [List.mem_singleton.1 h]; exact HR2.out
          · exact Lib.hid (below_app (HB.out.trans (HB2.out.mono hzr)) (by omega) HO2.out (Nat.le_refl _) hg6)
        case measure => simp [intOf]; omega
      by_cases hj1 : q % 5 = 1
      · have e0 : (q % 5 == 0) = false := by simpa using hj0
        have e1 : (q % 5 == 1) = true := by simpa using hj1
        have HC := Lib.hid (fun W => LowB_any (50 * q) lv W (by omega) hlv)
        clear hj0 hj1
        go_wp2_with (first
          | (go_at_call 7; go_loud (refine (C1.out _).mono ?_; rintro E w2 ⟨rfl, rfl⟩))
          | (go_at_call 22; go_loud (refine (HC.out _).mono ?_; rintro E w2 ⟨⟨rfl, hbx, _⟩, hb2⟩; have hr2 : RuM w2 (.slice V m cv) (.iface 113 (.agg #[.string ⟨#[108, 111, 119]⟩, .int .i64 lv, .func (.func 41) #[] #[.pointer (some ⟨wr.heap.size, 0, none⟩)]])) := Or.inr (Or.inl ⟨lv, wr.heap.size, 50 * q, rfl, hbx, hob⟩); have HR2 := Lib.hid hr2; have HO2 := Lib.hid (own_below HO.out hb2 (Nat.le_refl _)); have HB2 := Lib.hid hb2; have hz2 := hb2.size; clear hr2 hb2))
          | (at_builtin; go_loud (refine wpList_append_oneN w2 w2.heap.size rfl #[.iface 113 (.agg #[.string ⟨#[108, 111, 119]⟩, .int .i64 lv, .func (.func 41) #[] #[.pointer (some ⟨wr.heap.size, 0, none⟩)]])] rfl (.tmp 74) (.tmp 76) 54 rfl w.heap.size 30 i30 .nilIface 1 16 Try.underlying54 E0 E1 E2 E3 rfl (by decide) (.slice V m cv) m Rl rfl HO2.out rfl rfl (by simp [Value.oneCell']) (by omega) (by decide) (by omega) ?_); intro g6 cap6 w6 hv6 hg6 hat6 hlt6))
        go_roundw
        case rel =>
          refine ⟨k + 1, m + 1, some ⟨g6, 0, none⟩, cap6, Rl ++ [.iface 113 (.agg #[.string ⟨#[108, 111, 119]⟩, .int .i64 lv, .func (.func 41) #[] #[.pointer (some ⟨wr.heap.size, 0, none⟩)]])], by omega, by omega, by go_num, rfl, ?_, ?_, ?_, ?_⟩
          · exact Lib.hid (by rw [List.length_append, HL.out]; rfl)
          · exact Lib.hid hv6
          · refine Lib.hid (fun r hr => ?_)
            refine RuM.move (w := w2) (v := .slice V m cv) ?_ (fun p o hp hn => bk_app hp hn hg6 hat6)
            rcases List.mem_append.1 hr with h | h
            · exact (HR.out r h).below HB2.out
            · rw [List.mem_singleton.1 h]; exact HR2.out
          · exact Lib.hid (below_app (HB.out.trans (HB2.out.mono hzr)) (by omega) HO2.out (Nat.le_refl _) hg6)
        case measure => simp [intOf]; omega
      by_cases hj2 : q % 5 = 2
      · have e0 : (q % 5 == 0) = false := by simpa using hj0
        have e1 : (q % 5 == 1) = false := by simpa using hj1
        have e2 : (q % 5 == 2) = true := by simpa using hj2
        have HC := Lib.hid (fun W => FastB_any (q / 2) lv W (by omega) hlv)
        clear hj0 hj1 hj2
        go_wp2_with (first
          | (go_at_call 7; go_loud (refine (C1.out _).mono ?_; rintro E w2 ⟨rfl, rfl⟩))
          | (go_at_call 30; go_loud (refine (HC.out _).mono ?_; rintro E w2 ⟨⟨rfl, hbx, _⟩, hb2⟩; have hr2 : RuM w2 (.slice V m cv) (.iface 113 (.agg #[.string ⟨#[102, 97, 115, 116]⟩, .int .i64 lv, .func (.func 46) #[] #[.pointer (some ⟨wr.heap.size, 0, none⟩)]])) := Or.inr (Or.inr (Or.inl ⟨lv, wr.heap.size, q / 2, by omega, rfl, hbx, hob⟩)); have HR2 := Lib.hid hr2; have HO2 := Lib.hid (own_below HO.out hb2 (Nat.le_refl _)); have HB2 := Lib.hid hb2; have hz2 := hb2.size; clear hr2 hb2))
          | (at_builtin; go_loud (refine wpList_append_oneN w2 w2.heap.size rfl #[.iface 113 (.agg #[.string ⟨#[102, 97, 115, 116]⟩, .int .i64 lv, .func (.func 46) #[] #[.pointer (some ⟨wr.heap.size, 0, none⟩)]])] rfl (.tmp 74) (.tmp 76) 54 rfl w.heap.size 30 i30 .nilIface 1 16 Try.underlying54 E0 E1 E2 E3 rfl (by decide) (.slice V m cv) m Rl rfl HO2.out rfl rfl (by simp [Value.oneCell']) (by omega) (by decide) (by omega) ?_); intro g6 cap6 w6 hv6 hg6 hat6 hlt6))
        go_roundw
        case rel =>
          refine ⟨k + 1, m + 1, some ⟨g6, 0, none⟩, cap6, Rl ++ [.iface 113 (.agg #[.string ⟨#[102, 97, 115, 116]⟩, .int .i64 lv, .func (.func 46) #[] #[.pointer (some ⟨wr.heap.size, 0, none⟩)]])], by omega, by omega, by go_num, rfl, ?_, ?_, ?_, ?_⟩
          · exact Lib.hid (by rw [List.length_append, HL.out]; rfl)
          · exact Lib.hid hv6
          · refine Lib.hid (fun r hr => ?_)
            refine RuM.move (w := w2) (v := .slice V m cv) ?_ (fun p o hp hn => bk_app hp hn hg6 hat6)
            rcases List.mem_append.1 hr with h | h
            · exact (HR.out r h).below HB2.out
            · rw [List.mem_singleton.1 h]; exact HR2.out
          · exact Lib.hid (below_app (HB.out.trans (HB2.out.mono hzr)) (by omega) HO2.out (Nat.le_refl _) hg6)
        case measure => simp [intOf]; omega
      by_cases hj3 : q % 5 = 3
      · have e0 : (q % 5 == 0) = false := by simpa using hj0
        have e1 : (q % 5 == 1) = false := by simpa using hj1
        have e2 : (q % 5 == 2) = false := by simpa using hj2
        have e3 : (q % 5 == 3) = true := by simpa using hj3
        have HC := Lib.hid (fun W => Closed_any lv W hlv)
        clear hj0 hj1 hj2 hj3
        go_wp2_with (first
          | (go_at_call 7; go_loud (refine (C1.out _).mono ?_; rintro E w2 ⟨rfl, rfl⟩))
          | (go_at_call 31; go_loud (refine (HC.out _).mono ?_; rintro E w2 ⟨rfl, hb2⟩; have hr2 : RuM w2 (.slice V m cv) (.iface 113 (.agg #[.string ⟨#[99, 108, 111, 115, 101, 100]⟩, .int .i64 lv, .func (.func 48) #[] #[]])) := Or.inr (Or.inr (Or.inr (Or.inl ⟨lv, rfl⟩))); have HR2 := Lib.hid hr2; have HO2 := Lib.hid (own_below HO.out hb2 (Nat.le_refl _)); have HB2 := Lib.hid hb2; have hz2 := hb2.size; clear hr2 hb2))
          | (at_builtin; go_loud (refine wpList_append_oneN w2 w2.heap.size rfl #[.iface 113 (.agg #[.string ⟨#[99, 108, 111, 115, 101, 100]⟩, .int .i64 lv, .func (.func 48) #[] #[]])] rfl (.tmp 74) (.tmp 76) 54 rfl w.heap.size 30 i30 .nilIface 1 16 Try.underlying54 E0 E1 E2 E3 rfl (by decide) (.slice V m cv) m Rl rfl HO2.out rfl rfl (by simp [Value.oneCell']) (by omega) (by decide) (by omega) ?_); intro g6 cap6 w6 hv6 hg6 hat6 hlt6))
        go_roundw
        case rel =>
          refine ⟨k + 1, m + 1, some ⟨g6, 0, none⟩, cap6, Rl ++ [.iface 113 (.agg #[.string ⟨#[99, 108, 111, 115, 101, 100]⟩, .int .i64 lv, .func (.func 48) #[] #[]])], by omega, by omega, by go_num, rfl, ?_, ?_, ?_, ?_⟩
          · exact Lib.hid (by rw [List.length_append, HL.out]; rfl)
          · exact Lib.hid hv6
          · refine Lib.hid (fun r hr => ?_)
            refine RuM.move (w := w2) (v := .slice V m cv) ?_ (fun p o hp hn => bk_app hp hn hg6 hat6)
            rcases List.mem_append.1 hr with h | h
            · exact (HR.out r h).below HB2.out
            · rw [List.mem_singleton.1 h]; exact HR2.out
          · exact Lib.hid (below_app (HB.out.trans (HB2.out.mono hzr)) (by omega) HO2.out (Nat.le_refl _) hg6)
        case measure => simp [intOf]; omega
      have e0 : (q % 5 == 0) = false := by simpa using hj0
      have e1 : (q % 5 == 1) = false := by simpa using hj1
      have e2 : (q % 5 == 2) = false := by simpa using hj2
      have e3 : (q % 5 == 3) = false := by simpa using hj3
      have HC := Lib.hid (fun W => Emergency_any lv W hlv)
      clear hj0 hj1 hj2 hj3
      go_wp2_with (first
        | (go_at_call 7; go_loud (refine (C1.out _).mono ?_; rintro E w2 ⟨rfl, rfl⟩))
        | (go_at_call 32; go_loud (refine (HC.out _).mono ?_; rintro E w2 ⟨rfl, hb2⟩; have hr2 : RuM w2 (.slice V m cv) (.iface 113 (.agg #[.string ⟨#[101, 109, 101, 114, 103, 101, 110, 99, 121]⟩, .int .i64 lv, .func (.func 52) #[] #[]])) := Or.inr (Or.inr (Or.inr (Or.inr ⟨lv, rfl⟩))); have HR2 := Lib.hid hr2; have HO2 := Lib.hid (own_below HO.out hb2 (Nat.le_refl _)); have HB2 := Lib.hid hb2; have hz2 := hb2.size; clear hr2 hb2))
        | (at_builtin; go_loud (refine wpList_append_oneN w2 w2.heap.size rfl #[.iface 113 (.agg #[.string ⟨#[101, 109, 101, 114, 103, 101, 110, 99, 121]⟩, .int .i64 lv, .func (.func 52) #[] #[]])] rfl (.tmp 74) (.tmp 76) 54 rfl w.heap.size 30 i30 .nilIface 1 16 Try.underlying54 E0 E1 E2 E3 rfl (by decide) (.slice V m cv) m Rl rfl HO2.out rfl rfl (by simp [Value.oneCell']) (by omega) (by decide) (by omega) ?_); intro g6 cap6 w6 hv6 hg6 hat6 hlt6))
      go_roundw
      case rel =>
        refine ⟨k + 1, m + 1, some ⟨g6, 0, none⟩, cap6, Rl ++ [.iface 113 (.agg #[.string ⟨#[101, 109, 101, 114, 103, 101, 110, 99, 121]⟩, .int .i64 lv, .func (.func 52) #[] #[]])], by omega, by omega, by go_num, rfl, ?_, ?_, ?_, ?_⟩
        · exact Lib.hid (by rw [List.length_append, HL.out]; rfl)
        · exact Lib.hid hv6
        · refine Lib.hid (fun r hr => ?_)
          refine RuM.move (w := w2) (v := .slice V m cv) ?_ (fun p o hp hn => bk_app hp hn hg6 hat6)
          rcases List.mem_append.1 hr with h | h
          · exact (HR.out r h).below HB2.out
          · rw [List.mem_singleton.1 h]; exact HR2.out
        · exact Lib.hid (below_app (HB.out.trans (HB2.out.mono hzr)) (by omega) HO2.out (Nat.le_refl _) hg6)
      case measure => simp [intOf]; omega
    · obtain rfl : K = k := by omega
      go_wp2
      go_ret
      exact ⟨V, m, cv, Rl, rfl, by omega, HL.out, HO.out, HR.out, HB.out⟩
end Go.Proofs.Ytdmecagdjbjgjaa
