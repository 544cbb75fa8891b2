/- Package record: number, Check. -/
import Derived.Test.YtjmdebeffpdpcaaGreatDoorA1
import Derived.Lib.QuietBelow
import Derived.Lib.AtoiBound
import Derived.BigQuiet
namespace Go.Proofs.YtjmdebeffpdpcaaGreatDoor
open Go.RowKit
open Go.Lib hiding intOf

theorem slice_str (s : ByteArray) (o : Nat) (ho : o ≤ s.size) (_ : s.size ≤ maxLen) (W : World) : (Instr.slice 9 (.string s) none (some (.int .i64 (o : Int))) none).run Tryz.prog W = .ok (.string (mk ((bl s).take o))) W := by
  go_simp
  exact bl_inj (by rw [bl_mk]; simp [bl, ByteArray.data_extract])
theorem drop_str (s : ByteArray) (o : Nat) (ho : o ≤ s.size) (_ : s.size ≤ maxLen) (W : World) : (Instr.slice 9 (.string s) (some (.int .i64 (o : Int))) none none).run Tryz.prog W = .ok (.string (mk ((bl s).drop o))) W := by
  go_simp
  exact bl_inj (by rw [bl_mk]; simp only [bl, ByteArray.data_extract]; simp; exact List.take_of_length_le (by rw [List.length_drop, Array.length_toList]; exact Nat.le_refl _))

set_option maxRecDepth 100000 in
set_option maxHeartbeats 1000000 in
theorem number_ok (s : ByteArray) (c : UInt8) (n : Nat) (r : L8) (w : World) (hc : isDg c = false) (h : bl s = decDigits n ++ c :: r) (hl : (decDigits n).length ≤ 6) (hs : s.size ≤ maxLen) (he : Env w) :
    Calls Tryz.prog 35 #[.string s, .string ⟨#[c]⟩] w fun e w' => e = .returned (.tuple #[.int .i64 (n : Int), .string (mk r), .bool true]) ∧ Below w.heap.size w w' := by
  obtain ⟨o, ho⟩ : ∃ o, (decDigits n).length = o := ⟨_, rfl⟩
  have hn := lt_of_nDigits6 hl
  have ho1 : 1 ≤ o := by rw [← ho, decDigits_length]; exact nDigits_pos n
  rw [ho] at hl
  have hi : indexByte (bl s) c = (o : Int) := by
    rw [h, ← ho]
    refine indexByte_at _ _ fun b hb e => ?_
    subst e
    rw [decDigits_dg n b hb] at hc; cases hc
  have hsz : s.size = o + 1 + r.length := by rw [← size_bl, h]; simp [ho]; omega
  have htk : (bl s).take o = decDigits n := by rw [h, ← ho]; simp
  have hdr : (bl s).drop (o + 1) = r := by
    rw [h, ← List.drop_drop, ← ho]; simp
  have HI : Hid (Calls Tryz.prog 36 #[.string s, .string ⟨#[c]⟩] w fun e w' => e = .returned (.int .i64 (o : Int)) ∧ w = w') := Lib.hid (by have := Index_any s c w; rw [hi] at this; exact this)
  have HA : Hid (Calls Tryz.prog 53 #[.string (mk (decDigits n))] w fun e w' => e = .returned (.tuple #[.int .i64 (n : Int), .nilIface]) ∧ Below w.heap.size w w') :=
    Lib.hid (Atoi_ok (mk (decDigits n)) n w (by rw [size_mk, ho]; omega) (by rw [bl_mk]; exact atoi_decDigits n))
  have hk1 := fun W => slice_str s o (by omega) hs W
  have hk2 : ∀ W, (Instr.slice 9 (.string s) (some (.int .i64 ((o : Int) + 1))) none none).run Tryz.prog W = .ok (.string (mk ((bl s).drop (o + 1)))) W := fun W => drop_str s (o + 1) (by omega) hs W
  rw [htk] at hk1
  rw [hdr] at hk2
  have hw1 : IntKind.i64.wrap ((o : Int) + 1) = (o : Int) + 1 := IntWalk.i64_in _ (by omega)
  have hn0 : (0 : Int) ≤ (n : Int) := by omega
  have d1 : decide ((o : Int) < 1) = false := by simp; omega
  have d2 : decide ((6 : Int) < (o : Int)) = false := by simp; omega
  have mixed := Tryz.lays171.mixed
  have HE := Lib.hid he
  unfold maxLen at hs
  clear h htk hdr hi hsz ho he hc
  go_enter Tryz.func35, Tryz.ntmps35
  go_wp2_with (first
    | (go_at_call 36; refine HI.out.mono ?_; rintro e w1 ⟨rfl, rfl⟩)
    | (go_at_call 53; refine HA.out.mono ?_; rintro e w2 ⟨rfl, hb2⟩))
  have cI : ∀ d os, Calls Tryz.prog 33 #[.int .i64 (n : Int)] (Sort.grow (redrawn w2 d) os) fun e w'' => e = .returned (.string (mk (decDigits n))) ∧ ∃ p : Regrown, w'' = Sort.grow (redrawn w2 p.d) p.os := fun d os =>
    Calls.regrown_of (Itoa_any n _ (by omega) ((HE.out.below hb2).below (below_regrown w2 d os)))
  refine wp_region_quiet_below (by assumption) (by kernel_rfl) ?_
  repeat (quiet_step (exact cI _ _))
  refine wpQuiet_nil ?_
  intro _ hw'
  obtain ⟨⟨dq, osq⟩, hw''⟩ := hw'
  subst hw''
  go_wp2
  go_ret3
  exact ⟨rfl, hb2.trans ((below_regrown w2 dq osq).mono hb2.size)⟩

def NoNum (w : World) (e : Ending) (w' : World) : Prop := (∃ v x, e = .returned (.tuple #[.int .i64 v, .string x, .bool false])) ∧ Below w.heap.size w w'

set_option maxRecDepth 100000 in
set_option maxHeartbeats 2000000 in
theorem number_no (s : ByteArray) (c : UInt8) (w : World) (h : ∀ n r, (decDigits n).length ≤ 6 → bl s ≠ decDigits n ++ c :: r) (hs : s.size ≤ maxLen) (he : Env w) :
    Calls Tryz.prog 35 #[.string s, .string ⟨#[c]⟩] w (NoNum w) := by
  have hidx := indexByte_ge (bl s) c
  obtain ⟨i, hi⟩ : ∃ i, indexByte (bl s) c = i := ⟨_, rfl⟩
  have HI : Hid (Calls Tryz.prog 36 #[.string s, .string ⟨#[c]⟩] w fun e w' => e = .returned (.int .i64 i) ∧ w = w') := Lib.hid (by have := Index_any s c w; rw [hi] at this; exact this)
  rw [hi] at hidx
  have HE := Lib.hid he
  clear he
  by_cases h1 : i < 1
  · have d1 : decide (i < 1) = true := by simp; omega
    clear h hi hidx
    unfold maxLen at hs
    go_enter Tryz.func35, Tryz.ntmps35
    go_wp2_with (go_at_call 36; refine HI.out.mono ?_; rintro e w1 ⟨rfl, rfl⟩)
    go_ret3
    exact ⟨⟨_, _, rfl⟩, Below.refl _ _⟩
  · by_cases h6 : 6 < i
    · have d1 : decide (i < 1) = false := by simp; omega
      have d2 : decide (6 < i) = true := by simp; omega
      clear h hi hidx
      unfold maxLen at hs
      go_enter Tryz.func35, Tryz.ntmps35
      go_wp2_with (go_at_call 36; refine HI.out.mono ?_; rintro e w1 ⟨rfl, rfl⟩)
      go_ret3
      exact ⟨⟨_, _, rfl⟩, Below.refl _ _⟩
    · obtain ⟨o, rfl⟩ : ∃ o : Nat, i = (o : Int) := ⟨i.toNat, by omega⟩
      obtain ⟨e1, e2, e3⟩ := indexByte_split hi
      rw [size_bl] at e3
      have d1 : decide ((o : Int) < 1) = false := by simp; omega
      have d2 : decide ((6 : Int) < (o : Int)) = false := by simp; omega
      have hk1 := fun W => slice_str s o (by omega) hs W
      have hk2 : ∀ W, (Instr.slice 9 (.string s) (some (.int .i64 ((o : Int) + 1))) none none).run Tryz.prog W = .ok (.string (mk ((bl s).drop (o + 1)))) W := fun W => drop_str s (o + 1) (by omega) hs W
      obtain ⟨r, hr⟩ : ∃ r, mk ((bl s).drop (o + 1)) = r := ⟨_, rfl⟩
      obtain ⟨t, ht⟩ : ∃ t, (bl s).take o = t := ⟨_, rfl⟩
      have htl : t.length = o := by rw [← ht, List.length_take, size_bl]; omega
      have hw1 : IntKind.i64.wrap ((o : Int) + 1) = (o : Int) + 1 := by
        unfold maxLen at hs
        exact IntWalk.i64_in _ (by omega)
      rw [hr] at hk2
      rw [ht] at hk1 e1
      have mixed := Tryz.lays171.mixed
      cases ha : atoi t with
      | none =>
        have HA := Lib.hid (fun (W : World) (hW : Env W) => Atoi_no (mk t) W (by rw [size_mk]; omega) (by rw [bl_mk]; exact ha) hW)
        clear h hi hidx e1 e2 ht hr ha h1 h6 htl
        unfold maxLen at hs
        go_enter Tryz.func35, Tryz.ntmps35
        go_wp2_with (first
          | (go_at_call 36; refine HI.out.mono ?_; rintro e w1 ⟨rfl, rfl⟩)
          | (go_at_call 53; refine (HA.out _ HE.out).mono ?_; rintro e w2 ⟨⟨N, tt, rfl⟩, hb2⟩))
        refine wp_region_quiet_below (by assumption) (by kernel_rfl) ?_
        repeat (quiet_step (fail))
        refine wpQuiet_nil ?_
        intro _ hw'
        obtain ⟨⟨dq, osq⟩, hw''⟩ := hw'
        subst hw''
        go_wp2
        go_ret3
        exact ⟨⟨_, _, rfl⟩, hb2.trans ((below_regrown w2 dq osq).mono hb2.size)⟩
      | some v =>
        have HA := Lib.hid (Atoi_ok (mk t) v w (by rw [size_mk]; omega) (by rw [bl_mk]; exact ha))
        have hvb := atoi_bound ha (by omega)
        by_cases hv : v < 0
        · have d3 : decide (0 ≤ v) = false := by simp; omega
          clear h hi hidx e1 e2 ht hr ha h1 h6 htl
          unfold maxLen at hs
          go_enter Tryz.func35, Tryz.ntmps35
          go_wp2_with (first
            | (go_at_call 36; refine HI.out.mono ?_; rintro e w1 ⟨rfl, rfl⟩)
            | (go_at_call 53; refine HA.out.mono ?_; rintro e w2 ⟨rfl, hb2⟩))
          refine wp_region_quiet_below (by assumption) (by kernel_rfl) ?_
          repeat (quiet_step (fail))
          refine wpQuiet_nil ?_
          intro _ hw'
          obtain ⟨⟨dq, osq⟩, hw''⟩ := hw'
          subst hw''
          go_wp2
          go_ret3
          exact ⟨⟨_, _, rfl⟩, hb2.trans ((below_regrown w2 dq osq).mono hb2.size)⟩
        · obtain ⟨n, rfl⟩ : ∃ n : Nat, v = (n : Int) := ⟨v.toNat, by omega⟩
          have hne : ((mk (decDigits n)).toList == (mk t).toList) = false := by
            rw [toList_mk, toList_mk, beq_eq_false_iff_ne]
            intro e
            refine h n ((bl s).drop (o + 1)) (by rw [e]; omega) ?_
            rw [e]; exact e1
          have hn0 : (0 : Int) ≤ (n : Int) := by omega
          clear h hi hidx e1 e2 ht hr ha h1 h6 htl hv
          unfold maxLen at hs
          go_enter Tryz.func35, Tryz.ntmps35
          go_wp2_with (first
            | (go_at_call 36; refine HI.out.mono ?_; rintro e w1 ⟨rfl, rfl⟩)
            | (go_at_call 53; refine HA.out.mono ?_; rintro e w2 ⟨rfl, hb2⟩))
          have cI : ∀ d os, Calls Tryz.prog 33 #[.int .i64 (n : Int)] (Sort.grow (redrawn w2 d) os) fun e w'' => e = .returned (.string (mk (decDigits n))) ∧ ∃ p : Regrown, w'' = Sort.grow (redrawn w2 p.d) p.os := fun d os =>
            Calls.regrown_of (Itoa_any n _ (by omega) ((HE.out.below hb2).below (below_regrown w2 d os)))
          refine wp_region_quiet_below (by assumption) (by kernel_rfl) ?_
          repeat (quiet_step (exact cI _ _))
          refine wpQuiet_nil ?_
          intro _ hw'
          obtain ⟨⟨dq, osq⟩, hw''⟩ := hw'
          subst hw''
          go_wp2
          go_ret3
          exact ⟨⟨_, _, rfl⟩, hb2.trans ((below_regrown w2 dq osq).mono hb2.size)⟩
end Go.Proofs.YtjmdebeffpdpcaaGreatDoor
