/- Package replay: the walk of Run. -/
import Derived.Test.YtjmdebeffpdpcaaGreatDoorK4
namespace Go.Proofs.YtjmdebeffpdpcaaGreatDoor
open Go.RowKit
open Go.Lib hiding intOf

/-- append([]T(nil), l...) of a sound state. -/
theorem wpList_append_state {ops : Array Oper} {rest : List Oper} {o : Oper} {a : Act} {Q : Exit → Act → World → Prop} (w : World) (hgd : o.guard = none) (x : Operand)
    (ho : o.op = .call { callee := .builtin .append, args := #[.const (.slice none 0 0), x], argTypes := #[32, 32] }) {A : Option Addr} {n c : Nat} {l : List Rw} (h : StAt l A n w) (h64 : n ≤ 64) (hx : a.eval x = .slice A n c)
    (hk : ∀ A5 c5 w', w'.ownsRow w.heap.size 54 2 (.slice A5 n c5) n (rws l) → Below w.heap.size w w' → wpList Tryz.prog ops Q rest (a.put o.dst (.slice A5 n c5)) w') : wpList Tryz.prog ops Q (o :: rest) a w := by
  have hln := h.len
  cases A with
  | none =>
    obtain rfl := h.nil rfl
    have hl0 : l = [] := List.length_eq_zero_iff.1 hln
    subst hl0
    refine wpList_plain hgd fun K hK => ?_
    unfold Oper.wp execOp
    simp only [ho, resolve, invoke, builtin, Sem.run_bind, Sem.run_pure, Result.andThen_ok, List.map_toArray, List.map_cons, List.map_nil, hx]
    go_simp
    exact hK _ _ (hk none 0 w (World.ownsRow_nil _ _ _ _) (Below.refl _ w))
  | some ad =>
    obtain ⟨i0, J0, J1, J2, J3⟩ := info_parts CloneRw_info
    refine wpList_append_own _ hgd (.const (.slice none 0 0)) x 32 ho w.heap.size 54 i0 _ 2 32 Tryz.underlying32 J0 J1 J2 J3 rfl (by decide) (.slice none 0 0) 0 [] rfl (World.ownsRow_nil _ _ _ _) ad n c (flatR (fun i => rwV l[i]!) n) hx
      (flatR_len n (fun i (_ : i < n) => rwV_len l[i]!)) (Sl_news (by decide) h.sl rfl (fun i (_ : i < n) => rwV_len l[i]!)) (fun u hu => by
        obtain ⟨i, _, hu⟩ := flatR_mem hu
        exact rwV_one _ u hu) (by unfold maxLen; omega) (by omega) (Nat.le_refl _) ?_
    intro v' w' hown hg _
    rw [Nat.zero_add, List.nil_append] at hown
    obtain ⟨A5, c5, rfl⟩ := own_shape hown
    refine hk A5 c5 w' ?_ ((Below.refl _ w).grown hg (Nat.le_refl _) (fun k hk => by simp [Value.ownBlock] at hk))
    rw [rws, rowsV_flat rwV_len l, hln]; exact hown

def prevF (f : Nat → Ent) : Nat → Option Int
  | 0 => none
  | k + 1 => some (f k).num

theorem entsF_step (f : Nat → Ent) {j m : Nat} (h : j < m) : entsF f j (m - j) = f j :: entsF f (j + 1) (m - (j + 1)) := by
  rw [show m - j = m - (j + 1) + 1 by omega]; rfl

set_option maxRecDepth 100000 in
set_option maxHeartbeats 4000000 in
theorem Run_any (A : Option Addr) (n c : Nat) (l : List Rw) (B : Option Addr) (m d : Nat) (f : Nat → Ent) (w : World) (h : StAt l A n w) (hE : Sl w w.heap.size 4 B m (fun i => rowE (f i))) (hm : m ≤ maxLen) (hf : ∀ i, i < m → Wf (f i)) (he : Env w) :
    Calls Tryz.prog 13 #[.slice A n c, .slice B m d] w (RunP (runF l (entsF f 0 m)).1 (runF l (entsF f 0 m)).2.1 (runF l (entsF f 0 m)).2.2 w) := by
  unfold maxLen at hm
  have HCk := Lib.hid (Check_any A n c l w h.sl h.len h.z h.le)
  have HH := Lib.hid h
  have HE := Lib.hid hE
  have HF := Lib.hid hf
  have HV := Lib.hid he
  obtain ⟨R, hR⟩ : ∃ R, runF l (entsF f 0 m) = R := ⟨_, rfl⟩
  rw [hR]
  clear h hE hf he
  by_cases hc : checkL l = 0
  · have HC := Lib.hid hc
    by_cases h5 : 500 < m
    · have HR := Lib.hid (show R = ([], 0, 2) by rw [← hR]; unfold runF; rw [if_neg (by simpa using hc), entsF_len, if_pos h5])
      have b1 : decide ((500 : Int) < (m : Int)) = true := by simp; omega
      clear hR hc h5
      go_enter Tryz.func13, Tryz.ntmps13
      go_wp2_with (first
        | (go_at_call 28; go_loud (refine HCk.out.mono ?_; rintro e w1 ⟨he1, hb1⟩; rw [HC.out] at he1; subst he1)))
      go_ret3
      rw [HR.out]
      exact RunP_nil rfl rfl rfl hb1
    · have HR := Lib.hid (show R = runG l none 0 (entsF f 0 m) by rw [← hR]; unfold runF; rw [if_neg (by simpa using hc), entsF_len, if_neg h5])
      have HFi := Lib.hid (fine_of hc)
      have hn64 : n ≤ 64 := by rw [← HH.out.len]; exact HFi.out.len
      clear hR hc
      go_enter Tryz.func13, Tryz.ntmps13
      go_wp2_with (first
        | (go_at_call 28; go_loud (refine HCk.out.mono ?_; rintro e w1 ⟨he1, hb1⟩; rw [HC.out] at he1; subst he1))
        | (at_builtin; go_loud (refine wpList_append_state _ rfl (.tmp 21) rfl (HH.out.below hb1) hn64 rfl ?_; intro A5 c5 w2 ho2 hb2)))
      have HB2 := Lib.hid (bstep hb1 hb2)
      have HO2 := Lib.hid (own_mono ho2 hb1.size)
      have hln := HH.out.len
      have HLn := Lib.hid hln
      clear hb1 hb2 ho2 hln
      go_loopw [8, 9, 10, 11, 12, 25] (fun t8 _ _ _ _ i wr => ∃ (j : Nat) (o : List Rw) (Ao : Option Addr) (co q : Nat), j ≤ m ∧ i = .int .i64 (j : Int) ∧ t8 = .slice Ao q co ∧ Hid (o.length = q) ∧ Hid (wr.ownsRow w.heap.size 54 2 (.slice Ao q co) q (rws o)) ∧ Hid (Fine o) ∧
        Hid (R = runG o (prevF f j) j (entsF f j (m - j))) ∧ Hid (∀ k, j = k + 1 → chk (f k) = 0) ∧ Below w.heap.size w wr) (fun _ _ _ _ _ i _ => m - (intOf i).toNat)
      case atStart => exact ⟨0, l, A5, c5, n, by omega, rfl, rfl, HLn, HO2, HFi, HR, Lib.hid (fun k hk => by omega), HB2.out⟩
      case round =>
        obtain ⟨j, o, Ao, co, q, hj, rfl, rfl, HQ, HO, HFo, HRj, HP, hbr⟩ := hrel
        have hj0 : (0 : Int) ≤ (j : Int) := by omega
        by_cases hlt : j < m
        · have hjm : (j : Int) < (m : Int) := by omega
          obtain ⟨b1, off, rfl, hb1, q0, q1, q2, q3⟩ := Sl.four HE.out j hlt
          have o0 := (hbr.cell (p := ⟨b1, off + j * 4, none⟩) hb1).trans q0
          have o1 := (hbr.cell (p := ⟨b1, off + j * 4 + 1, none⟩) hb1).trans q1
          have o2 := (hbr.cell (p := ⟨b1, off + j * 4 + 2, none⟩) hb1).trans q2
          have o3 := (hbr.cell (p := ⟨b1, off + j * 4 + 3, none⟩) hb1).trans q3
          have hwf := HF.out j hlt
          have hst0 : entsF f j (m - j) = f j :: entsF f (j + 1) (m - (j + 1)) := entsF_step f hlt
          have HSt0 := Lib.hid hst0
          obtain ⟨xj, hxj⟩ : ∃ xj, f j = xj := ⟨_, rfl⟩
          rw [hxj] at o0 o1 o2 o3 hwf HSt0
          have HXj := Lib.hid hxj
          clear q0 q1 q2 q3 hst0 hxj
          have hstep : ∀ W, Below wr.heap.size wr W → Calls Tryz.prog 17 #[.slice Ao q co, valE xj] W (StateP (stR o xj) (stC o xj) W) := fun W hW => by
            have hq := HQ.out
            subst hq
            exact Step_any Ao o.length co o xj W ((StAt.of_own HFo.out HO.out).below hW) hwf (HV.out.below (hbr.trans (hW.mono hbr.size)))
          obtain ⟨xn, xt, xk, xx⟩ := xj
          unfold valE at hstep
          simp only at o0 o1 o2 o3 hstep
          have HStep := Lib.hid hstep
          have hbx : Below wr.heap.size wr (wr.alloc (.cells #[.int .i64 xn, .int .i64 xt, .string xk, .string xx] 48)) := (Below.refl _ wr).alloc (Nat.le_refl _) _
          have HBx := Lib.hid hbx
          have hnew := heap_alloc_new wr (.cells #[.int .i64 xn, .int .i64 xt, .string xk, .string xx] 48)
          have k0 := cell_of_row _ _ 0 _ _ _ hnew
          have k1 := cell_of_row _ _ 1 _ _ _ hnew
          have k2 := cell_of_row _ _ 2 _ _ _ hnew
          have k3 := cell_of_row _ _ 3 _ _ _ hnew
          clear hstep hbx hnew hwf
          by_cases hz : j = 0
          · have hdj : decide ((0 : Int) < (j : Int)) = false := by simp; omega
            have hdj2 : decide (0 < j) = false := by simp; omega
            have HL := Lib.hid (show (prevF f j).any (fun q => decide (xn ≠ q + 1)) = false by rw [hz]; rfl)
            clear hz
            by_cases hs : stC o ⟨xn, xt, xk, xx⟩ = 0
            · have HS := Lib.hid hs
              have HR3 := Lib.hid (show R = runG (stR o ⟨xn, xt, xk, xx⟩) (prevF f (j + 1)) (j + 1) (entsF f (j + 1) (m - (j + 1))) by
                rw [HRj.out, HSt0.out, runG, HL.out, if_neg (by decide), if_neg (by simpa using hs), prevF, HXj.out])
              have HFs := Lib.hid (st_fine hs)
              have HOk := Lib.hid (st_ok hs)
              clear hs
              go_wp2_with fail
              go_quiet (fail)
              go_wp2_with (go_at_call 17; go_loud (refine (HStep.out _ (below_drewN HBx.out _)).mono ?_; rintro e w5 h5; have h5' := h5.up (below_drewN (hbr.trans (HBx.out.mono hbr.size)) _); obtain ⟨A6, c6, rfl, ho6, hb6⟩ := h5'; rw [HS.out]))
              go_roundw
              case rel => exact ⟨j + 1, _, A6, c6, _, by omega, by go_num, rfl, Lib.hid rfl, Lib.hid ho6, HFs, HR3, Lib.hid (fun k hk => by obtain rfl : j = k := (by omega); rw [HXj.out]; exact HOk.out), hb6⟩
              case measure => simp [intOf]; omega
            · have HR3 := Lib.hid (show R = ([], j, stC o ⟨xn, xt, xk, xx⟩) by
                rw [HRj.out, HSt0.out, runG, HL.out, if_neg (by decide), if_pos (by simpa using hs)])
              obtain ⟨sc, hsc⟩ : ∃ sc, stC o ⟨xn, xt, xk, xx⟩ = sc := ⟨_, rfl⟩
              rw [hsc] at hs HR3
              have hsb : (sc != 0) = true := by simpa using hs
              have HSC := Lib.hid hsc
              clear hs hsc
              go_wp2_with fail
              go_quiet (fail)
              go_wp2_with (go_at_call 17; go_loud (refine (HStep.out _ (below_drewN HBx.out _)).mono ?_; rintro e w5 h5; have h5' := h5.up (below_drewN (hbr.trans (HBx.out.mono hbr.size)) _); obtain ⟨A6, c6, rfl, _, hb6⟩ := h5'; rw [HSC.out]))
              go_ret3
              rw [HR3.out]
              exact RunP_nil rfl rfl rfl hb6
          · obtain ⟨k, hk⟩ : ∃ k, j = k + 1 := ⟨j - 1, by omega⟩
            have hpj : (0 : Int) < (j : Int) := by omega
            have hdj : decide ((0 : Int) < (j : Int)) = true := by simp; omega
            have hdj2 : decide (0 < j) = true := by simp; omega
            obtain ⟨b2, off2, hbe, hb2', r0, _, _, _⟩ := Sl.four HE.out k (by omega)
            obtain ⟨rfl, rfl⟩ : b1 = b2 ∧ off = off2 := by injection hbe with hbe; injection hbe with e1 e2 _; exact ⟨e1, e2⟩
            have p0 := (hbr.cell (p := ⟨b1, off + k * 4, none⟩) hb1).trans r0
            have hck := chk_ok.1 (HP.out k hk)
            have hk1 := hck.n1
            have hk2 := hck.n2
            obtain ⟨y, hy⟩ : ∃ y, (f k).num = y := ⟨_, rfl⟩
            rw [hy] at p0 hk1 hk2
            have hw1 : IntKind.i64.wrap ((j : Int) - 1) = (k : Int) := by rw [IntWalk.i64_in _ (by omega)]; omega
            have hw2 : IntKind.i64.wrap (y + 1) = y + 1 := IntWalk.i64_in _ (by omega)
            have hbl : b1 < wr.heap.size := Nat.lt_of_lt_of_le hb1 hbr.size
            have hbn : (b1 == wr.heap.size) = false := by simp; omega
            have p1 : (wr.alloc (.cells #[.int .i64 xn, .int .i64 xt, .string xk, .string xx] 48)).cell? ⟨b1, off + k * 4, none⟩ = some (.int .i64 y) := (HBx.out.cell (p := ⟨b1, off + k * 4, none⟩) hbl).trans p0
            have hkm0 : (0 : Int) ≤ (k : Int) := by omega
            have hkm : (k : Int) < (m : Int) := by omega
            have hpv : prevF f j = some y := by rw [hk, prevF, hy]
            have HPv := Lib.hid hpv
            clear hbe r0 hck hy hpv
            have HK := Lib.hid hk
            clear hk hz
            by_cases hxy : xn = y + 1
            · have HL := Lib.hid (show (prevF f j).any (fun q => decide (xn ≠ q + 1)) = false by rw [HPv.out]; simp [hxy])
              have dxy : (xn != y + 1) = false := by simp [hxy]
              have dxy2 : decide (xn = y + 1) = true := by simp [hxy]
              clear hxy
              by_cases hs : stC o ⟨xn, xt, xk, xx⟩ = 0
              · have HS := Lib.hid hs
                have HR3 := Lib.hid (show R = runG (stR o ⟨xn, xt, xk, xx⟩) (prevF f (j + 1)) (j + 1) (entsF f (j + 1) (m - (j + 1))) by
                  rw [HRj.out, HSt0.out, runG, HL.out, if_neg (by decide), if_neg (by simpa using hs), prevF, HXj.out])
                have HFs := Lib.hid (st_fine hs)
                have HOk := Lib.hid (st_ok hs)
                clear hs
                go_wp2_with fail
                go_quiet (fail)
                go_wp2_with (go_at_call 17; go_loud (refine (HStep.out _ (below_drewN HBx.out _)).mono ?_; rintro e w5 h5; have h5' := h5.up (below_drewN (hbr.trans (HBx.out.mono hbr.size)) _); obtain ⟨A6, c6, rfl, ho6, hb6⟩ := h5'; rw [HS.out]))
                go_roundw
                case rel => exact ⟨j + 1, _, A6, c6, _, by omega, by go_num, rfl, Lib.hid rfl, Lib.hid ho6, HFs, HR3, Lib.hid (fun k hk => by obtain rfl : j = k := (by omega); rw [HXj.out]; exact HOk.out), hb6⟩
                case measure => simp [intOf]; omega
              · have HR3 := Lib.hid (show R = ([], j, stC o ⟨xn, xt, xk, xx⟩) by
                  rw [HRj.out, HSt0.out, runG, HL.out, if_neg (by decide), if_pos (by simpa using hs)])
                obtain ⟨sc, hsc⟩ : ∃ sc, stC o ⟨xn, xt, xk, xx⟩ = sc := ⟨_, rfl⟩
                rw [hsc] at hs HR3
                have hsb : (sc != 0) = true := by simpa using hs
                have HSC := Lib.hid hsc
                clear hs hsc
                go_wp2_with fail
                go_quiet (fail)
                go_wp2_with (go_at_call 17; go_loud (refine (HStep.out _ (below_drewN HBx.out _)).mono ?_; rintro e w5 h5; have h5' := h5.up (below_drewN (hbr.trans (HBx.out.mono hbr.size)) _); obtain ⟨A6, c6, rfl, _, hb6⟩ := h5'; rw [HSC.out]))
                go_ret3
                rw [HR3.out]
                exact RunP_nil rfl rfl rfl hb6
            · have HR3 := Lib.hid (show R = ([], j, 21) by
                rw [HRj.out, HSt0.out, runG, HPv.out, if_pos (by simpa using hxy)])
              have dxy : (xn != y + 1) = true := by simpa using hxy
              have dxy2 : decide (xn = y + 1) = false := by simpa using hxy
              clear hxy
              go_wp2_with fail
              go_quiet (fail)
              go_wp2_with fail
              go_ret3
              rw [HR3.out]
              exact RunP_nil rfl rfl rfl (below_drewN (hbr.trans (HBx.out.mono hbr.size)) _)
        · obtain rfl : j = m := by omega
          have HR2 := Lib.hid (show R = (o, 0, 0) by rw [HRj.out, Nat.sub_self]; rfl)
          go_wp2
          go_ret3
          rw [HR2.out]
          have hq := HQ.out
          subst hq
          exact ⟨Ao, co, rfl, HO.out, hbr⟩
  · have hcb : (checkL l != 0) = true := by simpa using hc
    have HR := Lib.hid (show R = ([], 0, checkL l) by rw [← hR]; unfold runF; rw [if_pos hc])
    obtain ⟨ce, hce⟩ : ∃ ce, checkL l = ce := ⟨_, rfl⟩
    rw [hce] at hcb HR
    have HCE := Lib.hid hce
    clear hR hc hce
    go_enter Tryz.func13, Tryz.ntmps13
    go_wp2_with (go_at_call 28; go_loud (refine HCk.out.mono ?_; rintro e w1 ⟨he1, hb1⟩; rw [HCE.out] at he1; subst he1))
    go_ret3
    rw [HR.out]
    exact RunP_nil rfl rfl rfl hb1
end Go.Proofs.YtjmdebeffpdpcaaGreatDoor
