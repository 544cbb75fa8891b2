/- The walk of ReplayNotes. -/
import Derived.Test.YtbbklfjgojjlhaaDoorK8
import Derived.Test.YtbbklfjgojjlhaaDoorQ3
namespace Go.Proofs.YtbbklfjgojjlhaaDoor
open Go.RowKit
open Go.Lib hiding intOf

theorem onlyG_wf {P : Ent → Prop} : ∀ (xs : List Ent) (j : Nat), (∀ x ∈ xs, ∀ k, k < j + xs.length → P (reN x k)) → ∀ y ∈ onlyG j xs, P y
  | [], _, _, y, hy => by cases hy
  | x :: r, j, h, y, hy => by
    unfold onlyG at hy
    split at hy
    · rcases List.mem_cons.1 hy with rfl | hy
      · exact h x (by simp) j (by rw [List.length_cons]; omega)
      · exact onlyG_wf r (j + 1) (fun z hz k hk => h z (by simp [hz]) k (by rw [List.length_cons]; omega)) y hy
    · exact onlyG_wf r j (fun z hz k hk => h z (by simp [hz]) k (by rw [List.length_cons]; omega)) y hy

theorem entsF_mem {g : Nat → Ent} : ∀ {k o : Nat} {x : Ent}, x ∈ entsF g o k → ∃ i, o ≤ i ∧ i < o + k ∧ g i = x
  | 0, _, _, h => by cases h
  | k + 1, o, x, h => by
    rw [entsF] at h
    rcases List.mem_cons.1 h with e | h
    · exact ⟨o, Nat.le_refl _, by omega, e.symm⟩
    · obtain ⟨i, h1, h2, h3⟩ := entsF_mem h
      exact ⟨i, by omega, by omega, h3⟩

set_option maxRecDepth 100000 in
set_option maxHeartbeats 4000000 in
theorem Notes_walk (A : Option Addr) (n c : Nat) (l : List Rw) (B : Option Addr) (m d : Nat) (f : Nat → Ent) (w : World) (h : StAt l A n w) (hE : Sl w w.heap.size 4 B m (fun i => rowE (f i))) (hmd : m ≤ d) (hd : d ≤ maxLen) (hnil : B = none → m = 0 ∧ d = 0)
    (hf : ∀ i, i < m → Wf (f i)) (he : Env w) :
    Calls Tryd.prog 6 #[.slice A n c, .slice B m d] w fun v w' => v = .returned (.bool true) ∧ Below w.heap.size w w' := by
  obtain ⟨N, hN⟩ : ∃ N, N = min m 12 := ⟨_, rfl⟩
  have HNu := Lib.hid (numbered_any B m d N f w hE hmd hd hnil hN)
  have hN12 : N ≤ 12 := by omega
  have HWf := Lib.hid (fun i (hi : i < N) => numE_wf hf (show i < m by omega) (show i < 12 by omega))
  have HH := Lib.hid h
  have HV := Lib.hid he
  clear hE hmd hd hnil hf he hN h
  have hOl := onlyG_len (entsF (numE f) 0 N) 0
  rw [entsF_len] at hOl
  have HOw := Lib.hid (onlyG_wf (P := Wf) (entsF (numE f) 0 N) 0 (fun x hx k hk => by
    obtain ⟨i, _, h2, rfl⟩ := entsF_mem hx
    rw [entsF_len] at hk
    obtain ⟨_, w2, w3, w4⟩ := HWf.out i (by omega)
    exact ⟨⟨by show (-9223372036854775808 : Int) ≤ (k : Int) + 1; omega, by show (k : Int) + 1 ≤ 9223372036854775807; omega⟩, w2, w3, w4⟩))
  have HNo := Lib.hid (notes l (entsF (numE f) 0 N) (by rw [entsF_len]; omega))
  have HRun := Lib.hid (fun (A1 : Option Addr) (c1 : Nat) (W : World) (hW : StAt l A n W) (hS : Sl W W.heap.size 4 A1 N (fun i => rowE (numE f i))) (hv : Env W) => Run_any A n c l A1 N c1 (numE f) W hW hS (by unfold maxLen; omega) HWf.out hv)
  obtain ⟨O, hO⟩ : ∃ O, onlyG 0 (entsF (numE f) 0 N) = O := ⟨_, rfl⟩
  have HO := Lib.hid hO
  have HRun2 := Lib.hid (fun (A1 : Option Addr) (c1 : Nat) (W : World) (hW : StAt l A n W) (hS : Sl W W.heap.size 4 A1 O.length (fun i => rowE O[i]!)) (hv : Env W) => Run_any A n c l A1 O.length c1 (fun i => O[i]!) W hW hS (by rw [hO] at hOl; unfold maxLen; omega) (fun i hi => HOw.out _ (by rw [hO, getElem!_pos O i hi]; exact List.getElem_mem hi)) hv)
  rw [entsF_list] at HRun2
  rw [hO] at hOl HNo
  have HLm := Lib.hid (show (runF l (entsF (numE f) 0 N)).2.2 = 0 → (runF l (entsF (numE f) 0 N)).1.length ≤ maxLen from fun h0 => by
    have := (runF_fine h0).len; unfold maxLen; omega)
  obtain ⟨R, hR⟩ : ∃ R, runF l (entsF (numE f) 0 N) = R := ⟨_, rfl⟩
  obtain ⟨R2, hR2⟩ : ∃ R2, runF l O = R2 := ⟨_, rfl⟩
  rw [hR] at HRun HNo HLm
  rw [hR2] at HRun2 HNo
  obtain ⟨LR, iR, cR⟩ := R
  obtain ⟨L2, i2, c2⟩ := R2
  simp only at HRun HRun2 HNo HLm
  have HOl := Lib.hid hOl
  clear hO hR hR2 HOw hOl
  obtain ⟨i0, J0, J1, J2, J3⟩ := info_parts CloneEn_info
  go_enter Tryd.func6, Tryd.ntmps6
  go_wp2_with (go_at_call 7; go_loud (refine HNu.out.mono ?_; rintro e w1 ⟨A1, c1, rfl, ho1, hb1⟩))
  have hS1 := Lib.hid (Sl_flat (rowE_one (numE f)) ho1)
  have HB1 := Lib.hid hb1
  clear ho1 hb1
  go_loopw [5, 7, 18] (fun t5 _ i wr => ∃ (j q : Nat) (ol : List Ent) (Ao : Option Addr) (co : Nat), j ≤ N ∧ i = .int .i64 (j : Int) ∧ t5 = .slice Ao q co ∧ q ≤ j ∧ Hid (ol.length = q) ∧ Hid (wr.ownsRow w1.heap.size 36 4 (.slice Ao q co) q (rowsV rowE ol)) ∧ Hid (O = ol ++ onlyG q (entsF (numE f) j (N - j))) ∧ Below w1.heap.size w1 wr) (fun _ _ i _ => N - (intOf i).toNat)
  case atStart => exact ⟨0, 0, [], none, 0, by omega, rfl, rfl, by omega, Lib.hid rfl, Lib.hid (World.ownsRow_nil _ _ _ _), Lib.hid (by rw [← HO.out]; rfl), Below.refl _ _⟩
  case round =>
    obtain ⟨j, q, ol, Ao, co, hj, rfl, rfl, hq, HQ, HOW, HRe, hbr⟩ := hrel
    by_cases hlt : j < N
    · have hj0 : (0 : Int) ≤ (j : Int) := by omega
      have hjN : (j : Int) < (N : Int) := by omega
      have hq0 : (0 : Int) ≤ (q : Int) := by omega
      obtain ⟨b1, off, rfl, hb1, q0, q1, q2, q3⟩ := Sl.four hS1.out j hlt
      have o0 := (hbr.cell (p := ⟨b1, off + j * 4, none⟩) hb1).trans q0
      have o1 := (hbr.cell (p := ⟨b1, off + j * 4 + 1, none⟩) hb1).trans q1
      have o2 := (hbr.cell (p := ⟨b1, off + j * 4 + 2, none⟩) hb1).trans q2
      have o3 := (hbr.cell (p := ⟨b1, off + j * 4 + 3, none⟩) hb1).trans q3
      have hst0 : entsF (numE f) j (N - j) = numE f j :: entsF (numE f) (j + 1) (N - (j + 1)) := entsF_step (numE f) hlt
      have HRe2 := Lib.hid (show O = ol ++ onlyG q (numE f j :: entsF (numE f) (j + 1) (N - (j + 1))) by rw [← hst0]; exact HRe.out)
      obtain ⟨x, hx⟩ : ∃ x, numE f j = x := ⟨_, rfl⟩
      rw [hx] at o0 o1 o2 o3 HRe2
      obtain ⟨xn, xt, xk, xx⟩ := x
      simp only at o0 o1 o2 o3
      clear q0 q1 q2 q3 hst0 hx HRe
      have hwq : IntKind.i64.wrap ((q : Int) + 1) = (q : Int) + 1 := IntWalk.i64_in _ (by omega)
      have hrow : rowsV rowE ol ++ (#[Value.int .i64 ((q : Int) + 1), .int .i64 xt, .string xk, .string xx] : Array Value).toList = rowsV rowE (ol ++ [reN ⟨xn, xt, xk, xx⟩ q]) := by
        rw [rowsV_snoc]; rfl
      have HRow := Lib.hid hrow
      have hbx : ∀ v, Below w1.heap.size w1 (wr.alloc (.cells v 36)) := fun v => hbr.alloc hbr.size _
      have HBx := Lib.hid hbx
      have hnew := heap_alloc_new wr (.cells #[.int .i64 xn, .int .i64 xt, .string xk, .string xx] 36)
      have k0 := cell_of_row _ _ 0 _ _ _ hnew
      have k1 := cell_of_row _ _ 1 _ _ _ hnew
      have k2 := cell_of_row _ _ 2 _ _ _ hnew
      have k3 := cell_of_row _ _ 3 _ _ _ hnew
      clear hnew hbx hrow
      by_cases e1 : xk = kSet
      · have d1 : (xk.toList == [115, 101, 116]) = true := by rw [e1, ByteArray.toList_eq]; rfl
        have HKe := Lib.hid (show keepE ⟨xn, xt, xk, xx⟩ = true by unfold keepE; simp [e1])
        clear e1
        go_wp2_with (at_builtin; go_loud (refine wpList_append_oneN (wr.alloc (.cells #[.int .i64 ((q : Int) + 1), .int .i64 xt, .string xk, .string xx] 36)) (wr.heap.size + 1) (by simp) #[.int .i64 ((q : Int) + 1), .int .i64 xt, .string xk, .string xx] rfl (.tmp 39) (.tmp 41) 23 rfl w1.heap.size 36 i0 (.agg #[.int .i64 0, .int .i64 0, .string ByteArray.empty, .string ByteArray.empty]) 4 48 Tryd.underlying23 J0 J1 J2 J3 rfl (by decide) (.slice Ao q co) q _ rfl (HOW.out.alloc _) rfl rfl (by simp [Value.oneCell']) (by omega) (by decide) (by have := (HBx.out #[.int .i64 ((q : Int) + 1), .int .i64 xt, .string xk, .string xx]).size; exact this) ?_; intro g3 cap3 w6 hv6 hg6 hat6 hlt6))
        have hv7 := hv6
        rw [HRow.out] at hv7
        have hb6 : Below w1.heap.size w1 w6 := below_app (HBx.out _) (HBx.out _).size (HOW.out.alloc _) (Nat.le_refl _) hg6
        go_roundw
        case rel => exact ⟨j + 1, q + 1, ol ++ [reN ⟨xn, xt, xk, xx⟩ q], some ⟨g3, 0, none⟩, cap3, by omega, by go_num, rfl, by omega, Lib.hid (by rw [List.length_append, HQ.out]; rfl), Lib.hid hv7, Lib.hid (by rw [HRe2.out, onlyG, if_pos HKe.out, List.append_assoc]; rfl), hb6⟩
        case measure => simp [intOf]; omega
      · have d1 : (xk.toList == [115, 101, 116]) = false := kind_ne e1
        by_cases e2 : xk = kCut
        · have d2 : (xk.toList == [99, 117, 116]) = true := by rw [e2, ByteArray.toList_eq]; rfl
          have HKe := Lib.hid (show keepE ⟨xn, xt, xk, xx⟩ = true by unfold keepE; simp [e2])
          clear e1 e2
          go_wp2_with (at_builtin; go_loud (refine wpList_append_oneN (wr.alloc (.cells #[.int .i64 ((q : Int) + 1), .int .i64 xt, .string xk, .string xx] 36)) (wr.heap.size + 1) (by simp) #[.int .i64 ((q : Int) + 1), .int .i64 xt, .string xk, .string xx] rfl (.tmp 39) (.tmp 41) 23 rfl w1.heap.size 36 i0 (.agg #[.int .i64 0, .int .i64 0, .string ByteArray.empty, .string ByteArray.empty]) 4 48 Tryd.underlying23 J0 J1 J2 J3 rfl (by decide) (.slice Ao q co) q _ rfl (HOW.out.alloc _) rfl rfl (by simp [Value.oneCell']) (by omega) (by decide) (by have := (HBx.out #[.int .i64 ((q : Int) + 1), .int .i64 xt, .string xk, .string xx]).size; exact this) ?_; intro g3 cap3 w6 hv6 hg6 hat6 hlt6))
          have hv7 := hv6
          rw [HRow.out] at hv7
          have hb6 : Below w1.heap.size w1 w6 := below_app (HBx.out _) (HBx.out _).size (HOW.out.alloc _) (Nat.le_refl _) hg6
          go_roundw
          case rel => exact ⟨j + 1, q + 1, ol ++ [reN ⟨xn, xt, xk, xx⟩ q], some ⟨g3, 0, none⟩, cap3, by omega, by go_num, rfl, by omega, Lib.hid (by rw [List.length_append, HQ.out]; rfl), Lib.hid hv7, Lib.hid (by rw [HRe2.out, onlyG, if_pos HKe.out, List.append_assoc]; rfl), hb6⟩
          case measure => simp [intOf]; omega
        · have d2 : (xk.toList == [99, 117, 116]) = false := kind_ne e2
          by_cases e3 : xk = kGrow
          · have d3 : (xk.toList == [103, 114, 111, 119]) = true := by rw [e3, ByteArray.toList_eq]; rfl
            have HKe := Lib.hid (show keepE ⟨xn, xt, xk, xx⟩ = true by unfold keepE; simp [e3])
            clear e1 e2 e3
            go_wp2_with (at_builtin; go_loud (refine wpList_append_oneN (wr.alloc (.cells #[.int .i64 ((q : Int) + 1), .int .i64 xt, .string xk, .string xx] 36)) (wr.heap.size + 1) (by simp) #[.int .i64 ((q : Int) + 1), .int .i64 xt, .string xk, .string xx] rfl (.tmp 39) (.tmp 41) 23 rfl w1.heap.size 36 i0 (.agg #[.int .i64 0, .int .i64 0, .string ByteArray.empty, .string ByteArray.empty]) 4 48 Tryd.underlying23 J0 J1 J2 J3 rfl (by decide) (.slice Ao q co) q _ rfl (HOW.out.alloc _) rfl rfl (by simp [Value.oneCell']) (by omega) (by decide) (by have := (HBx.out #[.int .i64 ((q : Int) + 1), .int .i64 xt, .string xk, .string xx]).size; exact this) ?_; intro g3 cap3 w6 hv6 hg6 hat6 hlt6))
            have hv7 := hv6
            rw [HRow.out] at hv7
            have hb6 : Below w1.heap.size w1 w6 := below_app (HBx.out _) (HBx.out _).size (HOW.out.alloc _) (Nat.le_refl _) hg6
            go_roundw
            case rel => exact ⟨j + 1, q + 1, ol ++ [reN ⟨xn, xt, xk, xx⟩ q], some ⟨g3, 0, none⟩, cap3, by omega, by go_num, rfl, by omega, Lib.hid (by rw [List.length_append, HQ.out]; rfl), Lib.hid hv7, Lib.hid (by rw [HRe2.out, onlyG, if_pos HKe.out, List.append_assoc]; rfl), hb6⟩
            case measure => simp [intOf]; omega
          · have d3 : (xk.toList == [103, 114, 111, 119]) = false := kind_ne e3
            have HKe := Lib.hid (show ¬ keepE ⟨xn, xt, xk, xx⟩ = true by unfold keepE; simp [e1, e2, e3])
            have HOW2 := Lib.hid (own_below HOW.out ((Below.refl wr.heap.size wr).alloc (Nat.le_refl _) (.cells #[.int .i64 xn, .int .i64 xt, .string xk, .string xx] 36)) (Nat.le_refl _))
            clear e1 e2 e3
            go_wp2_with fail
            go_roundw
            case rel => exact ⟨j + 1, q, ol, Ao, co, by omega, by go_num, rfl, by omega, HQ, HOW2, Lib.hid (by rw [HRe2.out, onlyG, if_neg HKe.out]), HBx.out _⟩
            case measure => simp [intOf]; omega
    · obtain rfl : j = N := by omega
      have HOe := Lib.hid (show O = ol by rw [HRe.out, Nat.sub_self]; simp [entsF, onlyG])
      have Br := bstep HB1.out hbr
      obtain rfl := HOe.out
      have hqq := HQ.out
      subst hqq
      have hSO := Lib.hid (Sl_rows (enc := rowE) (k := 4) (fun _ => rfl) HOW.out rfl (by decide))
      have HBr := Lib.hid hbr
      clear HRe HOe
      by_cases hc0 : cR = 0
      · obtain ⟨hc2, hL2⟩ := HNo.out hc0
        have HLm2 := Lib.hid (HLm.out hc0)
        subst hc0 hc2 hL2
        clear HNo HLm
        go_wp2_with (first
          | (have _h9 := B3; go_at_call 9; go_loud (refine (HRun2.out Ao co _ (HH.out.below B3) ((hSO.out.below hb3).more hb3.size) (HV.out.below B3)).mono ?_; rintro e w4 ⟨A4, c4, rfl, ho4, hb4⟩; have B4 := bstep B3 hb4; have HS4 := Lib.hid (Sl_rows rwV_len ho4 rfl (by decide)); clear ho4))
          | (go_at_call 9; go_loud (refine (HRun.out A1 c1 _ (HH.out.below Br) ((hS1.out.below HBr.out).more HBr.out.size) (HV.out.below Br)).mono ?_; rintro e w3 ⟨A3, c3, rfl, ho3, hb3⟩; have B3 := bstep Br hb3; have HS3 := Lib.hid (Sl_rows rwV_len ho3 rfl (by decide)); clear ho3))
          | (go_at_call 10; go_loud (refine (fact_any _ (HV.out.below B4)).mono ?_; rintro e w5 ⟨rfl, hb5⟩; have B5 := bstep B4 hb5))
          | (go_at_call 11; go_loud (refine (Same_any A3 A4 L2.length c3 c4 w5.heap.size L2 _ ((HS3.out.below (hb4.trans (hb5.mono hb4.size))).more (hb4.trans (hb5.mono hb4.size)).size) ((HS4.out.below hb5).more hb5.size) HLm2.out).mono ?_; rintro e w6 ⟨rfl, hb6⟩)))
        go_ret
        exact ⟨rfl, bstep B5 hb6⟩
      · have hcb2 : (cR != 0) = true := by simpa using hc0
        clear HNo HLm hc0
        go_wp2_with (first
          | (have _h9 := B3; go_at_call 9; go_loud (refine (HRun2.out Ao co _ (HH.out.below B3) ((hSO.out.below hb3).more hb3.size) (HV.out.below B3)).mono ?_; rintro e w4 ⟨A4, c4, rfl, ho4, hb4⟩; have B4 := bstep B3 hb4; clear ho4))
          | (go_at_call 9; go_loud (refine (HRun.out A1 c1 _ (HH.out.below Br) ((hS1.out.below HBr.out).more HBr.out.size) (HV.out.below Br)).mono ?_; rintro e w3 ⟨A3, c3, rfl, ho3, hb3⟩; have B3 := bstep Br hb3; clear ho3))
          | (go_at_call 10; go_loud (refine (fact_any _ (HV.out.below B4)).mono ?_; rintro e w5 ⟨rfl, hb5⟩; have B5 := bstep B4 hb5)))
        go_ret
        exact ⟨rfl, B5⟩
end Go.Proofs.YtbbklfjgojjlhaaDoor
