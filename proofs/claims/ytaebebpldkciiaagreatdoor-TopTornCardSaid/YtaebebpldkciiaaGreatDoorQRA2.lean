/- Package record: number, Check. -/
import Derived.Test.YtaebebpldkciiaaGreatDoorQShE
import Derived.Lib.QuietBelow
import Derived.Lib.AtoiBound
import Derived.BigQuiet
namespace Go.Proofs.YtaebebpldkciiaaGreatDoor
open Go.RowKit
open Go.Lib hiding intOf
theorem slice_str (s : ByteArray) (o : Nat) (ho : o ≤ s.size) (_ : s.size ≤ maxLen) (W : World) : (Instr.slice 9 (.string s) none (some (.int .i64 (o : Int))) none).run Tryz.prog W = .ok (.string (mk ((bl s).take o))) W := by
 go_simp
 exact bl_inj (by rw [bl_mk]; simp [bl, ByteArray.data_extract])
theorem drop_str (s : ByteArray) (o : Nat) (ho : o ≤ s.size) (_ : s.size ≤ maxLen) (W : World) : (Instr.slice 9 (.string s) (some (.int .i64 (o : Int))) none none).run Tryz.prog W = .ok (.string (mk ((bl s).drop o))) W := by
 go_simp
 exact bl_inj (by rw [bl_mk]; simp only [bl, ByteArray.data_extract]; simp; exact List.take_of_length_le (by rw [List.length_drop, Array.length_toList]; exact Nat.le_refl _))
set_option maxRecDepth 100000 in
set_option maxHeartbeats 1000000 in
theorem number_ok (s : ByteArray) (c : UInt8) (n : Nat) (r : L8) (w : World) (hc : isDg c = false) (h : bl s = decDigits n ++ c :: r) (hl : (decDigits n).length ≤ 6) (hs : s.size ≤ maxLen) (he : Env w) :
  Calls Tryz.prog 100 #[.string s, .string ⟨#[c]⟩] w fun e w' => e = .returned (.tuple #[.int .i64 (n : Int), .string (mk r), .bool true]) ∧ Below w.heap.size w w' := by
 obtain ⟨o, ho⟩ : ∃ o, (decDigits n).length = o := ⟨_, rfl⟩
 have hn := lt_of_nDigits6 hl
 have ho1 : 1 ≤ o := by rw [← ho, decDigits_length]; exact nDigits_pos n
 rw [ho] at hl
 have hi : indexByte (bl s) c = (o : Int) := by
  rw [h, ← ho]
  refine indexByte_at _ _ fun b hb e => ?_
  subst e
  rw [decDigits_dg n b hb] at hc; cases hc
 have hsz : s.size = o + 1 + r.length := by rw [← size_bl, h]; simp [ho]; omega
 have htk : (bl s).take o = decDigits n := by rw [h, ← ho]; simp
 have hdr : (bl s).drop (o + 1) = r := by
  rw [h, ← List.drop_drop, ← ho]; simp
 have HI : Hid (Calls Tryz.prog 101 #[.string s, .string ⟨#[c]⟩] w fun e w' => e = .returned (.int .i64 (o : Int)) ∧ w = w') := Lib.hid (by have := Index_any s c w; rw [hi] at this; exact this)
 have HA : Hid (Calls Tryz.prog 146 #[.string (mk (decDigits n))] w fun e w' => e = .returned (.tuple #[.int .i64 (n : Int), .nilIface]) ∧ Below w.heap.size w w') :=
  Lib.hid (Atoi_ok (mk (decDigits n)) n w (by rw [size_mk, ho]; omega) (by rw [bl_mk]; exact atoi_decDigits n))
 have hk1 := fun W => slice_str s o (by omega) hs W
 have hk2 : ∀ W, (Instr.slice 9 (.string s) (some (.int .i64 ((o : Int) + 1))) none none).run Tryz.prog W = .ok (.string (mk ((bl s).drop (o + 1)))) W := fun W => drop_str s (o + 1) (by omega) hs W
 rw [htk] at hk1
 rw [hdr] at hk2
 have hw1 : IntKind.i64.wrap ((o : Int) + 1) = (o : Int) + 1 := IntWalk.i64_in _ (by omega)
 have hn0 : (0 : Int) ≤ (n : Int) := by omega
 have d1 : decide ((o : Int) < 1) = false := by simp; omega
 have d2 : decide ((6 : Int) < (o : Int)) = false := by simp; omega
 have mixed := Tryz.lays171.mixed
 have HE := Lib.hid he
 unfold maxLen at hs
 clear h htk hdr hi hsz ho he hc
 go_enter Tryz.func100, Tryz.ntmps100
 go_wp2_with (first
  | (go_at_call 101; refine HI.out.mono ?_; rintro e w1 ⟨rfl, rfl⟩)
  | (go_at_call 146; refine HA.out.mono ?_; rintro e w2 ⟨rfl, hb2⟩))
 have cI : ∀ d os, Calls Tryz.prog 61 #[.int .i64 (n : Int)] (Sort.grow (redrawn w2 d) os) fun e w'' => e = .returned (.string (mk (decDigits n))) ∧ ∃ p : Regrown, w'' = Sort.grow (redrawn w2 p.d) p.os := fun d os =>
  Calls.regrown_of (Itoa_any n _ (by omega) ((HE.out.below hb2).below (below_regrown w2 d os)))
 refine wp_region_quiet_below (by assumption) (by kernel_rfl) ?_
 repeat (quiet_step (exact cI _ _))
 refine wpQuiet_nil ?_
 intro _ hw'
 obtain ⟨⟨dq, osq⟩, hw''⟩ := hw'
 subst hw''
 go_wp2
 go_ret3
 exact ⟨rfl, hb2.trans ((below_regrown w2 dq osq).mono hb2.size)⟩
def NoNum (w : World) (e : Ending) (w' : World) : Prop := (∃ v x, e = .returned (.tuple #[.int .i64 v, .string x, .bool false])) ∧ Below w.heap.size w w'
set_option maxRecDepth 100000 in
set_option maxHeartbeats 2000000 in
theorem number_no (s : ByteArray) (c : UInt8) (w : World) (h : ∀ n r, (decDigits n).length ≤ 6 → bl s ≠ decDigits n ++ c :: r) (hs : s.size ≤ maxLen) (he : Env w) :
  Calls Tryz.prog 100 #[.string s, .string ⟨#[c]⟩] w (NoNum w) := by
 have hidx := indexByte_ge (bl s) c
 obtain ⟨i, hi⟩ : ∃ i, indexByte (bl s) c = i := ⟨_, rfl⟩
 have HI : Hid (Calls Tryz.prog 101 #[.string s, .string ⟨#[c]⟩] w fun e w' => e = .returned (.int .i64 i) ∧ w = w') := Lib.hid (by have := Index_any s c w; rw [hi] at this; exact this)
 rw [hi] at hidx
 have HE := Lib.hid he
 clear he
 by_cases h1 : i < 1
 ·have d1 : decide (i < 1) = true := by simp; omega
  clear h hi hidx
  unfold maxLen at hs
  go_enter Tryz.func100, Tryz.ntmps100
  go_wp2_with (go_at_call 101; refine HI.out.mono ?_; rintro e w1 ⟨rfl, rfl⟩)
  go_ret3
  exact ⟨⟨_, _, rfl⟩, Below.refl _ _⟩
 ·by_cases h6 : 6 < i
  ·have d1 : decide (i < 1) = false := by simp; omega
   have d2 : decide (6 < i) = true := by simp; omega
   clear h hi hidx
   unfold maxLen at hs
   go_enter Tryz.func100, Tryz.ntmps100
   go_wp2_with (go_at_call 101; refine HI.out.mono ?_; rintro e w1 ⟨rfl, rfl⟩)
   go_ret3
   exact ⟨⟨_, _, rfl⟩, Below.refl _ _⟩
  ·obtain ⟨o, rfl⟩ : ∃ o : Nat, i = (o : Int) := ⟨i.toNat, by omega⟩
   obtain ⟨e1, e2, e3⟩ := indexByte_split hi
   rw [size_bl] at e3
   have d1 : decide ((o : Int) < 1) = false := by simp; omega
   have d2 : decide ((6 : Int) < (o : Int)) = false := by simp; omega
   have hk1 := fun W => slice_str s o (by omega) hs W
   have hk2 : ∀ W, (Instr.slice 9 (.string s) (some (.int .i64 ((o : Int) + 1))) none none).run Tryz.prog W = .ok (.string (mk ((bl s).drop (o + 1)))) W := fun W => drop_str s (o + 1) (by omega) hs W
   obtain ⟨r, hr⟩ : ∃ r, mk ((bl s).drop (o + 1)) = r := ⟨_, rfl⟩
   obtain ⟨t, ht⟩ : ∃ t, (bl s).take o = t := ⟨_, rfl⟩
   have htl : t.length = o := by rw [← ht, List.length_take, size_bl]; omega
   have hw1 : IntKind.i64.wrap ((o : Int) + 1) = (o : Int) + 1 := by
    unfold maxLen at hs
    exact IntWalk.i64_in _ (by omega)
   rw [hr] at hk2
   rw [ht] at hk1 e1
   have mixed := Tryz.lays171.mixed
   cases ha : atoi t with
   | none =>
    have HA := Lib.hid (fun (W : World) (hW : Env W) => Atoi_no (mk t) W (by rw [size_mk]; omega) (by rw [bl_mk]; exact ha) hW)
    clear h hi hidx e1 e2 ht hr ha h1 h6 htl
    unfold maxLen at hs
    go_enter Tryz.func100, Tryz.ntmps100
    go_wp2_with (first
     | (go_at_call 101; refine HI.out.mono ?_; rintro e w1 ⟨rfl, rfl⟩)
     | (go_at_call 146; refine (HA.out _ HE.out).mono ?_; rintro e w2 ⟨⟨N, tt, rfl⟩, hb2⟩))
    refine wp_region_quiet_below (by assumption) (by kernel_rfl) ?_
    repeat (quiet_step (fail))
    refine wpQuiet_nil ?_
    intro _ hw'
    obtain ⟨⟨dq, osq⟩, hw''⟩ := hw'
    subst hw''
    go_wp2
    go_ret3
    exact ⟨⟨_, _, rfl⟩, hb2.trans ((below_regrown w2 dq osq).mono hb2.size)⟩
   | some v =>
    have HA := Lib.hid (Atoi_ok (mk t) v w (by rw [size_mk]; omega) (by rw [bl_mk]; exact ha))
    have hvb := atoi_bound ha (by omega)
    by_cases hv : v < 0
    ·have d3 : decide (0 ≤ v) = false := by simp; omega
     clear h hi hidx e1 e2 ht hr ha h1 h6 htl
     unfold maxLen at hs
     go_enter Tryz.func100, Tryz.ntmps100
     go_wp2_with (first
      | (go_at_call 101; refine HI.out.mono ?_; rintro e w1 ⟨rfl, rfl⟩)
      | (go_at_call 146; refine HA.out.mono ?_; rintro e w2 ⟨rfl, hb2⟩))
     refine wp_region_quiet_below (by assumption) (by kernel_rfl) ?_
     repeat (quiet_step (fail))
     refine wpQuiet_nil ?_
     intro _ hw'
     obtain ⟨⟨dq, osq⟩, hw''⟩ := hw'
     subst hw''
     go_wp2
     go_ret3
     exact ⟨⟨_, _, rfl⟩, hb2.trans ((below_regrown w2 dq osq).mono hb2.size)⟩
    ·obtain ⟨n, rfl⟩ : ∃ n : Nat, v = (n : Int) := ⟨v.toNat, by omega⟩
     have hne : ((mk (decDigits n)).toList == (mk t).toList) = false := by
      rw [toList_mk, toList_mk, beq_eq_false_iff_ne]
      intro e
      refine h n ((bl s).drop (o + 1)) (by rw [e]; omega) ?_
      rw [e]; exact e1
     have hn0 : (0 : Int) ≤ (n : Int) := by omega
     clear h hi hidx e1 e2 ht hr ha h1 h6 htl hv
     unfold maxLen at hs
     go_enter Tryz.func100, Tryz.ntmps100
     go_wp2_with (first
      | (go_at_call 101; refine HI.out.mono ?_; rintro e w1 ⟨rfl, rfl⟩)
      | (go_at_call 146; refine HA.out.mono ?_; rintro e w2 ⟨rfl, hb2⟩))
     have cI : ∀ d os, Calls Tryz.prog 61 #[.int .i64 (n : Int)] (Sort.grow (redrawn w2 d) os) fun e w'' => e = .returned (.string (mk (decDigits n))) ∧ ∃ p : Regrown, w'' = Sort.grow (redrawn w2 p.d) p.os := fun d os =>
      Calls.regrown_of (Itoa_any n _ (by omega) ((HE.out.below hb2).below (below_regrown w2 d os)))
     refine wp_region_quiet_below (by assumption) (by kernel_rfl) ?_
     repeat (quiet_step (exact cI _ _))
     refine wpQuiet_nil ?_
     intro _ hw'
     obtain ⟨⟨dq, osq⟩, hw''⟩ := hw'
     subst hw''
     go_wp2
     go_ret3
     exact ⟨⟨_, _, rfl⟩, hb2.trans ((below_regrown w2 dq osq).mono hb2.size)⟩
end Go.Proofs.YtaebebpldkciiaaGreatDoor
namespace Go.Proofs.YtaebebpldkciiaaGreatDoor
open Go.RowKit
open Go.Lib hiding intOf
theorem Ok.wf {e : Ent} (h : Ok e) : Wf e := by
 have h1 := h.n1; have h2 := h.n2; have h3 := h.t1; have h4 := h.t2; have h5 := h.x; have h6 := h.k
 rw [size_bl] at h5 h6
 exact ⟨⟨by omega, by omega⟩, ⟨by omega, by omega⟩, by unfold maxLen; omega, by unfold maxLen; omega⟩
theorem bl1 (c : UInt8) : bl (⟨#[c]⟩ : ByteArray) = [c] := rfl
theorem dig_size (n : Nat) (h : n < 1000000) : (mk (decDigits n)).size ≤ 6 := by rw [size_mk]; exact nDigits_le6 h
set_option maxRecDepth 100000 in
set_option maxHeartbeats 4000000 in
theorem Encode_ok (e : Ent) (w : World) (ho : Ok e) (he : Env w) :
  Calls Tryz.prog 35 #[valE e] w fun x w' => x = .returned (.tuple #[.string (mk (encL e)), .int .i64 0]) ∧ Below w.heap.size w w' := by
 have HC := Lib.hid (fun W => CheckE_any e W ho.wf)
 have h0 := chk_ok.2 ho
 rw [h0] at HC
 have h1 := ho.n1; have h2 := ho.n2; have h3 := ho.t1; have h4 := ho.t2; have h5 := ho.x; have h6 := ho.k
 have henc : encL e = preL e ++ 59 :: (decDigits (sumL (preL e)) ++ [10]) := by unfold encL; rw [full_pre]
 have hsb := sumL_bd (preL e)
 have hpl : preL e = preL e := rfl
 conv at hpl => rhs; unfold preL
 obtain ⟨P, hP⟩ : ∃ P, preL e = P := ⟨_, rfl⟩
 rw [hP] at henc hpl hsb
 obtain ⟨E, hE⟩ : ∃ E, encL e = E := ⟨_, rfl⟩
 rw [hE] at henc
 obtain ⟨n, t, k, x⟩ := e
 simp only at h1 h2 h3 h4 h5 h6 hpl
 rw [size_bl] at h5 h6 hpl
 obtain ⟨n, rfl⟩ : ∃ m : Nat, n = (m : Int) := ⟨n.toNat, by omega⟩
 obtain ⟨t, rfl⟩ : ∃ m : Nat, t = (m : Int) := ⟨t.toNat, by omega⟩
 rw [Int.toNat_natCast, Int.toNat_natCast] at hpl
 have HI := Lib.hid (fun (m : Nat) (hm : m < 1000000) (W : World) (hW : Env W) => Itoa_any m W (by omega) hW)
 have sa := dig_size n (by omega)
 have sb := dig_size t (by omega)
 have sc := dig_size x.size (by omega)
 have sd := dig_size (sumL P) (by omega)
 rw [hE]
 obtain ⟨a, ha⟩ : ∃ a, mk (decDigits n) = a := ⟨_, rfl⟩
 obtain ⟨b, hb⟩ : ∃ b, mk (decDigits t) = b := ⟨_, rfl⟩
 obtain ⟨c, hc⟩ : ∃ c, mk (decDigits x.size) = c := ⟨_, rfl⟩
 obtain ⟨d, hd⟩ : ∃ d, mk (decDigits (sumL P)) = d := ⟨_, rfl⟩
 have IA := HI.out n (by omega)
 have IB := HI.out t (by omega)
 have IC := HI.out x.size (by omega)
 have ID := HI.out (sumL P) (by omega)
 rw [ha] at IA sa; rw [hb] at IB sb; rw [hc] at IC sc; rw [hd] at ID sd
 have hcat : bl (a ++ (⟨#[32]⟩ : ByteArray) ++ b ++ (⟨#[32]⟩ : ByteArray) ++ k ++ (⟨#[32]⟩ : ByteArray) ++ c ++ (⟨#[58]⟩ : ByteArray) ++ x) = P := by
  rw [hpl, ← ha, ← hb, ← hc]
  simp only [bl_append, bl_mk, bl1]
  simp
 have hend : ∀ S : ByteArray, bl S = P → S ++ (⟨#[59]⟩ : ByteArray) ++ d ++ (⟨#[10]⟩ : ByteArray) = mk E := fun S hS => by
  apply bl_inj
  rw [henc, ← hd]
  simp only [bl_append, bl_mk, bl1, hS]
  simp
 have hPl : P.length ≤ 200 := by
  rw [← hcat]
  simp only [bl_append, List.length_append, size_bl]
  have e1 : (⟨#[32]⟩ : ByteArray).size = 1 := rfl
  have e2 : (⟨#[58]⟩ : ByteArray).size = 1 := rfl
  omega
 have HCAT := Lib.hid hcat
 have HEND := Lib.hid hend
 have HIA := Lib.hid IA; have HIB := Lib.hid IB; have HIC := Lib.hid IC; have HID := Lib.hid ID
 have HE := Lib.hid he
 have n1 : ¬ 9223372036854775807 < a.size + 1 := by omega
 have n2 : ¬ 9223372036854775807 < a.size + 1 + b.size := by omega
 have n3 : ¬ 9223372036854775807 < a.size + 1 + b.size + 1 := by omega
 have n4 : ¬ 9223372036854775807 < a.size + 1 + b.size + 1 + k.size := by omega
 have n5 : ¬ 9223372036854775807 < a.size + 1 + b.size + 1 + k.size + 1 := by omega
 have n6 : ¬ 9223372036854775807 < a.size + 1 + b.size + 1 + k.size + 1 + c.size := by omega
 have n7 : ¬ 9223372036854775807 < a.size + 1 + b.size + 1 + k.size + 1 + c.size + 1 := by omega
 have n8 : ¬ 9223372036854775807 < a.size + 1 + b.size + 1 + k.size + 1 + c.size + 1 + x.size := by omega
 have mixed := Tryz.lays171.mixed
 unfold valE at HC ⊢
 simp only at HC ⊢
 clear hcat hend IA IB IC ID he hpl henc hE hP h0 ha hb hc hd HI ho
 go_enter Tryz.func35, Tryz.ntmps35
 go_wp2_with (go_at_call 58; refine (HC.out _).mono ?_; rintro e w1 ⟨rfl, hb1⟩)
 have hnew := heap_alloc_new w (.cells #[.int .i64 (n : Int), .int .i64 (t : Int), .string k, .string x] 78)
 have hn1 := (hb1.block w.heap.size (by simp)).trans hnew
 have c0 := cell_of_row _ _ 0 _ _ _ hn1
 have c1 := cell_of_row _ _ 1 _ _ _ hn1
 have c2 := cell_of_row _ _ 2 _ _ _ hn1
 have c3 := cell_of_row _ _ 3 _ _ _ hn1
 have k0 := cell_regrown c0
 have k1 := cell_regrown c1
 have k2 := cell_regrown c2
 have k3 := cell_regrown c3
 have hE1 : Env w1 := (HE.out.below ((Below.refl _ w).alloc (Nat.le_refl _) _)).below hb1
 have cA : ∀ d os, Calls Tryz.prog 61 #[.int .i64 (n : Int)] (Sort.grow (redrawn w1 d) os) fun e w'' => e = .returned (.string a) ∧ ∃ p : Regrown, w'' = Sort.grow (redrawn w1 p.d) p.os := fun d os =>
  Calls.regrown_of (HIA.out _ (hE1.below (below_regrown w1 d os)))
 have cB : ∀ d os, Calls Tryz.prog 61 #[.int .i64 (t : Int)] (Sort.grow (redrawn w1 d) os) fun e w'' => e = .returned (.string b) ∧ ∃ p : Regrown, w'' = Sort.grow (redrawn w1 p.d) p.os := fun d os =>
  Calls.regrown_of (HIB.out _ (hE1.below (below_regrown w1 d os)))
 have cC : ∀ d os, Calls Tryz.prog 61 #[.int .i64 (x.size : Int)] (Sort.grow (redrawn w1 d) os) fun e w'' => e = .returned (.string c) ∧ ∃ p : Regrown, w'' = Sort.grow (redrawn w1 p.d) p.os := fun d os =>
  Calls.regrown_of (HIC.out _ (hE1.below (below_regrown w1 d os)))
 clear hnew hn1
 refine wp_region_quiet_below (by assumption) (by kernel_rfl) ?_
 repeat (quiet_step (first | exact cA _ _ | exact cB _ _ | exact cC _ _))
 refine wpQuiet_nil ?_
 intro _ hw'
 obtain ⟨⟨dq, osq⟩, hw''⟩ := hw'
 subst hw''
 have hE2 : Env (Sort.grow (redrawn w1 dq) osq) := hE1.below (below_regrown w1 dq osq)
 have hB2 : Below w.heap.size w (Sort.grow (redrawn w1 dq) osq) := (((Below.refl _ w).alloc (Nat.le_refl _) _).trans (hb1.mono (by simp))).trans ((below_regrown w1 dq osq).mono (by have := hb1.size; simp at this; omega))
 obtain ⟨w2, hw2⟩ : ∃ w2, Sort.grow (redrawn w1 dq) osq = w2 := ⟨_, rfl⟩
 rw [hw2] at hE2 hB2 ⊢
 obtain ⟨S, hS⟩ : ∃ S, a ++ (⟨#[32]⟩ : ByteArray) ++ b ++ (⟨#[32]⟩ : ByteArray) ++ k ++ (⟨#[32]⟩ : ByteArray) ++ c ++ (⟨#[58]⟩ : ByteArray) ++ x = S := ⟨_, rfl⟩
 rw [hS]
 have hSP : bl S = P := by rw [← hS]; exact HCAT.out
 have hSs : S.size ≤ 200 := by rw [← size_bl, hSP]; exact hPl
 have hsum := fun W => Sum_any S W (by unfold maxLen; omega)
 rw [hSP] at hsum
 have HSum := Lib.hid hsum
 have HSP := Lib.hid hSP
 have m1 : ¬ 9223372036854775807 < S.size + 1 := by omega
 have m2 : ¬ 9223372036854775807 < S.size + 1 + d.size := by omega
 have m3 : ¬ 9223372036854775807 < S.size + 1 + d.size + 1 := by omega
 clear hw2 hS hSP hsum n1 n2 n3 n4 n5 n6 n7 n8 cA cB cC k0 k1 k2 k3 c0 c1 c2 c3
 go_wp2_with (first
  | (go_at_call 62; refine (HSum.out _).mono ?_; rintro e w3 ⟨rfl, rfl⟩)
  | (go_at_call 61; refine (HID.out _ hE2).mono ?_; rintro e w4 ⟨rfl, hb4⟩))
 go_ret2
 exact ⟨by rw [← HEND.out S HSP.out]; rfl, hB2.trans (hb4.mono hB2.size)⟩
end Go.Proofs.YtaebebpldkciiaaGreatDoor
