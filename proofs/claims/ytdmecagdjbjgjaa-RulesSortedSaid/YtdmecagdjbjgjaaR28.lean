/- The rule emergency. -/
import Derived.Test.YtdmecagdjbjgjaaR19
import Derived.Test.YtdmecagdjbjgjaaStr
import Derived.Laws.BytesArg
namespace Go.Proofs.Ytdmecagdjbjgjaa
open Go.RowKit

theorem gwrong_any (n : Int) (w : World) : Calls Try.prog 66 #[.int .i64 n] w fun E w' => E = .returned (.bool (decide (n < 0) || decide (4095 < n))) ∧ w = w' := by
  go_enter Try.func66, Try.ntmps66
  go_wp2
  all_goals
    go_ret
    first
      | (refine ⟨?_, rfl⟩; simp [*]; done)
      | (refine ⟨?_, rfl⟩; congr 2; simp; omega)

theorem conv4 (a b c d : Int) (W : World) : (convert 122 9 (.slice (some ⟨W.heap.size, 0, none⟩) 4 4)).run Try.prog (W.alloc (.cells #[.int .u8 a, .int .u8 b, .int .u8 c, .int .u8 d] 5)) = .ok (.string (strOfNums [a, b, c, d])) (W.alloc (.cells #[.int .u8 a, .int .u8 b, .int .u8 c, .int .u8 d] 5)) :=
  run_convert_bytes_arg (P := Try.prog) _ 122 5 Try.underlying122 Try.underlying5 W.heap.size 0 4 4 [a, b, c, d] rfl (fun i hi => by
    rw [cell_of_row _ _ _ _ 5 (0, 0) (heap_alloc_new W _), Nat.zero_add]
    rcases (show i = 0 ∨ i = 1 ∨ i = 2 ∨ i = 3 by omega) with rfl | rfl | rfl | rfl <;> rfl) 9 Try.underlying9

set_option maxRecDepth 100000 in
set_option maxHeartbeats 4000000 in
theorem Octal_ex (n : Int) (hn : 0 ≤ n ∧ n ≤ 4095) : ∃ t, ∀ w, Calls Try.prog 53 #[.int .i64 n] w fun E w' => E = .returned (.tuple #[.string t, .int .i64 0]) ∧ Below w.heap.size w w' := by
  have HW := Lib.hid (fun W => gwrong_any n W)
  rw [show (decide (n < 0) || decide ((4095 : Int) < n)) = false by simp; omega] at HW
  have hcv := conv4
  apply Exists.intro
  intro w
  go_enter Try.func53, Try.ntmps53
  go_wp2_with (go_at_call 66; go_loud (refine (HW.out _).mono ?_; rintro E w2 ⟨rfl, rfl⟩))
  go_ret2
  exact ⟨rfl, (Below.refl _ w).alloc (Nat.le_refl _) _⟩
set_option maxRecDepth 100000 in
theorem Octal_no (w : World) : Calls Try.prog 53 #[.int .i64 (-1)] w fun E w' => E = .returned (.tuple #[.string ⟨#[]⟩, .int .i64 4]) ∧ Below w.heap.size w w' := by
  have HW := Lib.hid (fun W => gwrong_any (-1) W)
  rw [show (decide ((-1 : Int) < 0) || decide ((4095 : Int) < -1)) = true by decide] at HW
  go_enter Try.func53, Try.ntmps53
  go_wp2_with (go_at_call 66; go_loud (refine (HW.out _).mono ?_; rintro E w2 ⟨rfl, rfl⟩))
  go_ret2
  exact ⟨rfl, Below.refl _ _⟩

set_option maxRecDepth 100000 in
set_option maxHeartbeats 4000000 in
theorem em_walk (x : Tr) (t : ByteArray) (k : Int) (z : Bool) (ho : ∀ w, Calls Try.prog 53 #[.int .i64 x.cd] w fun E w' => E = .returned (.tuple #[.string t, .int .i64 k]) ∧ Below w.heap.size w w')
    (hz : z = ((k == 0) && ((t.toList == [55, 53, 48, 48]) || (t.toList == [55, 54, 48, 48]) || (t.toList == [55, 55, 48, 48])))) (s : Sc) (w : World) :
    Calls Try.prog 52 #[s.val, trV x] w fun E w' => E = .returned (.bool z) ∧ Below w.heap.size w w' := by
  have HO := Lib.hid ho
  obtain ⟨x0, x1, x2, x3, x4, x5, x6, x7, x8, x9, x10, x11, x12⟩ := x
  dsimp only at HO
  have hbb : ∀ V : World, Below w.heap.size w V → Below w.heap.size w V := fun V h => h
  clear hbb
  unfold Sc.val trV
  have hB0 : Below w.heap.size w ((w.alloc (.cells #[.int .i64 s.tm, .slice s.A s.n s.c, .slice s.B s.m s.d] 25)).alloc (.cells #[.int .i64 x0, .int .i64 x1, .int .i64 x2, .int .i64 x3, .int .i64 x4, .int .i64 x5, .int .i64 x6, .int .i64 x7, .int .i64 x8, .int .i64 x9, .int .i64 x10, .int .i64 x11, .int .i64 x12] 41)) := ((Below.refl _ w).alloc (Nat.le_refl _) _).alloc (by simp) _
  have HB0 := Lib.hid hB0
  clear hB0
  have HZ := Lib.hid hz
  clear hz ho
  dsimp only
  cases hk : (k == 0)
  · rw [hk, Bool.false_and] at HZ
    have hk2 : (k != 0) = true := by simpa using hk
    go_enter Try.func52, Try.ntmps52
    go_wp2_with (go_at_call 53; go_loud (refine (HO.out _).mono ?_; rintro E w2 ⟨rfl, hb2⟩; have HB2 := Lib.hid (HB0.out.trans (hb2.mono HB0.out.size)); clear hb2))
    all_goals
      go_ret
      exact ⟨by rw [HZ.out]; rfl, HB2.out⟩
  · rw [hk, Bool.true_and] at HZ
    cases h1 : (t.toList == [55, 53, 48, 48])
    · cases h2 : (t.toList == [55, 54, 48, 48])
      · cases h3 : (t.toList == [55, 55, 48, 48])
        · rw [h1, h2, h3] at HZ
          go_enter Try.func52, Try.ntmps52
          go_wp2_with (go_at_call 53; go_loud (refine (HO.out _).mono ?_; rintro E w2 ⟨rfl, hb2⟩; have HB2 := Lib.hid (HB0.out.trans (hb2.mono HB0.out.size)); clear hb2))
          all_goals
            go_ret
            exact ⟨by rw [HZ.out]; rfl, HB2.out⟩
        · rw [h1, h2, h3] at HZ
          go_enter Try.func52, Try.ntmps52
          go_wp2_with (go_at_call 53; go_loud (refine (HO.out _).mono ?_; rintro E w2 ⟨rfl, hb2⟩; have HB2 := Lib.hid (HB0.out.trans (hb2.mono HB0.out.size)); clear hb2))
          all_goals
            go_ret
            exact ⟨by rw [HZ.out]; rfl, HB2.out⟩
      · rw [h1, h2] at HZ
        go_enter Try.func52, Try.ntmps52
        go_wp2_with (go_at_call 53; go_loud (refine (HO.out _).mono ?_; rintro E w2 ⟨rfl, hb2⟩; have HB2 := Lib.hid (HB0.out.trans (hb2.mono HB0.out.size)); clear hb2))
        all_goals
          go_ret
          exact ⟨by rw [HZ.out]; rfl, HB2.out⟩
    · rw [h1] at HZ
      go_enter Try.func52, Try.ntmps52
      go_wp2_with (go_at_call 53; go_loud (refine (HO.out _).mono ?_; rintro E w2 ⟨rfl, hb2⟩; have HB2 := Lib.hid (HB0.out.trans (hb2.mono HB0.out.size)); clear hb2))
      all_goals
        go_ret
        exact ⟨by rw [HZ.out]; rfl, HB2.out⟩

theorem emerg1_ex (x : Tr) (h : -1 ≤ x.cd ∧ x.cd ≤ 4095) : ∃ z, ∀ (s : Sc) (w : World), Calls Try.prog 52 #[s.val, trV x] w fun E w' => E = .returned (.bool z) ∧ Below w.heap.size w w' := by
  by_cases h0 : 0 ≤ x.cd
  · obtain ⟨t, ht⟩ := Octal_ex x.cd ⟨h0, h.2⟩
    exact ⟨_, fun s w => em_walk x t 0 _ ht rfl s w⟩
  · have e : x.cd = -1 := by omega
    exact ⟨_, fun s w => em_walk x ⟨#[]⟩ 4 _ (fun w => by rw [e]; exact Octal_no w) rfl s w⟩
open Classical in
noncomputable def emerB (x : Tr) : Bool := if h : -1 ≤ x.cd ∧ x.cd ≤ 4095 then (emerg1_ex x h).choose else false
theorem emerg1_any (x : Tr) (h : ¬ BadT x) (s : Sc) (w : World) : Calls Try.prog 52 #[s.val, trV x] w fun E w' => E = .returned (.bool (emerB x)) ∧ Below w.heap.size w w' := by
  have h' : -1 ≤ x.cd ∧ x.cd ≤ 4095 := by unfold BadT at h; omega
  unfold emerB
  rw [dif_pos h']
  exact (emerg1_ex x h').choose_spec s w
end Go.Proofs.Ytdmecagdjbjgjaa
