/- Package strip: the walk of StripBays. -/
import Derived.Test.YtadhkncilokdjaaDoorB3
import Derived.Test.YtadhkncilokdjaaDoorCut
import Derived.Test.YtadhkncilokdjaaDoorStill
namespace Go.Proofs.YtadhkncilokdjaaDoor
open Go.RowKit
open Go.Lib hiding intOf

theorem str_info : (Tryd.prog.info? 9).map (fun i => (i.zero, i.size, i.bytes)) = some (some (.string ByteArray.empty), 1, 16) := by kernel_rfl
/-- A row that stood before, and one that is new behind it. -/
theorem apart_new {w W : World} {base base' e e' n n' size size' : Nat} {v u : Value} {xs ys : List Value} (h : w.ownsRow base e size v n xs) (h' : W.ownsRow base' e' size' u n' ys) (hb : w.heap.size ≤ base') : ApartV v u := by
  cases hv : v.ownBlock with
  | none => exact .inl hv
  | some k =>
    right; right
    rw [hv]
    intro hu
    have h1 := (h.lt k hv).2
    have h2 := (h'.lt k hu.symm).1
    omega

def cl (l : List Va) : List ByteArray := l.map fun z : Va => z.1.c

set_option maxRecDepth 100000 in
set_option maxHeartbeats 16000000 in
theorem SBays_any (A : Option Addr) (n c : Nat) (f : Nat → St) (A2 : Option Addr) (n2 c2 : Nat) (f2 : Nat → Int) (w : World) (hn : n ≤ c ∧ c ≤ maxLen) (hn2 : n2 ≤ c2 ∧ c2 ≤ maxLen) (hA : Sl w w.heap.size 5 A n (fun i => stV (f i))) (hM : Sl w w.heap.size 1 A2 n2 (fun i => [.int .i64 (f2 i)])) (hf : ∀ i, i < n → (f i).c.size ≤ maxLen ∧ (f i).f.size ≤ maxLen) (he : Env w) :
    Calls Tryd.prog 4 #[.slice A n c, .slice A2 n2 c2] w fun e w' => e = .returned (.bool true) ∧ Below w.heap.size w w' := by
  obtain ⟨N, hN, hN1, hN2⟩ : ∃ N : Nat, min (n : Int) 12 = (N : Int) ∧ N ≤ n ∧ N ≤ 12 := ⟨min n 12, by omega, by omega, by omega⟩
  have n0 : (0 : Int) ≤ (N : Int) := by omega
  have nc : (N : Int) ≤ (c : Int) := by omega
  obtain ⟨K, hK, hK1, hK2⟩ : ∃ K : Nat, min (n2 : Int) 20 = (K : Int) ∧ K ≤ n2 ∧ K ≤ 20 := ⟨min n2 20, by omega, by omega, by omega⟩
  have k0 : (0 : Int) ≤ (K : Int) := by omega
  have kc : (K : Int) ≤ (c2 : Int) := by omega
  have HA := Lib.hid (hA.less hN1)
  have HMv := Lib.hid (hM.less hK1)
  have HF := Lib.hid (fun i (hi : i < N) => hf i (by omega))
  have HE := Lib.hid he
  obtain ⟨v, hv⟩ : ∃ v, w.heap.size = v := ⟨_, rfl⟩
  have HVe := Lib.hid hv
  clear hA hf he hn hN1 hM hn2 hK1
  go_enter Tryd.func4, Tryd.ntmps4
  go_wp2_with (first
    | (go_at_call 5; go_loud (refine (New_any w).mono ?_; rintro e w1 ⟨rfl, hbd, hb1⟩; have HBd := Lib.hid hbd; have HB1 := Lib.hid hb1; have hE1 := Lib.hid (HE.out.below hb1); have hz1 := hbd.a.lt; clear hbd hb1))
    | (go_at_call 6; go_loud (refine (fact_any w1 hE1.out).mono ?_; rintro e w2 ⟨rfl, hb2⟩; have HBd2 := Lib.hid (HBd.out.below hb2); have HB2 := Lib.hid (HB1.out.trans (hb2.mono HB1.out.size)); have hz2 := hb2.size; clear hb2)))
  obtain ⟨g, hg⟩ : ∃ g, w.heap.size = g := ⟨_, rfl⟩
  rw [hg] at HBd2 hz1 HB2
  obtain rfl : v = g := by omega
  have hg2 : v < w2.heap.size := by omega
  have hE2 := Lib.hid (HE.out.below (by rw [hv]; exact HB2.out))
  obtain ⟨w0, rfl⟩ : ∃ w0 : World, w0 = w2 := ⟨_, rfl⟩
  obtain ⟨i9, E0, E1, E2, E3⟩ := info_parts str_info
  clear HBd HB1 hE1 hg
  go_loopw [6, 29] (fun p i wr => ∃ (k m : Nat) (l : List Va) (B : Option Addr) (cB : Nat) (V : Option Addr) (cv : Nat), k ≤ N ∧ i = .int .i64 (k : Int) ∧ p = .slice V m cv ∧ Hid (l.length = m ∧ m ≤ k) ∧ Hid (Dist l) ∧ Hid (BdV v B cB l wr) ∧ Hid (wr.ownsRow (v + 1) 9 1 (.slice V m cv) m (strsK (cl l))) ∧ Hid (ApartV (.slice V m cv) (.slice B m cB)) ∧ Hid (Below v w0 wr)) (fun _ i _ => N - (intOf i).toNat)
  case atStart => exact ⟨0, 0, [], none, 0, none, 0, by omega, rfl, rfl, Lib.hid ⟨rfl, Nat.le_refl _⟩, Lib.hid (fun i _ hi => absurd hi (by simp)), HBd2, Lib.hid (World.ownsRow_nil _ _ _ _), Lib.hid apart_nil, Lib.hid (Below.refl _ _)⟩
  case round =>
    obtain ⟨k, m, l, B, cB, V, cv, hk, rfl, rfl, HL, HD, HBo, HV, HAp, HW⟩ := hrel
    have HWv := Lib.hid (HB2.out.trans (HW.out.mono (by omega)))
    have hgr := HBo.out.a.lt
    have hmk := HL.out.2
    by_cases hkN : k < N
    · obtain ⟨b, off, rfl, hbb, hr⟩ := st_cells HA.out (by omega)
      have hbv : b < v := by have := HVe.out; omega
      obtain ⟨r0, r1, r2, r3, r4⟩ := hr k hkN
      have o0 := (HWv.out.cell (p := ⟨b, off + k * 5, none⟩) hbv).trans r0
      have o1 := (HWv.out.cell (p := ⟨b, off + k * 5 + 1, none⟩) hbv).trans r1
      have o2 := (HWv.out.cell (p := ⟨b, off + k * 5 + 2, none⟩) hbv).trans r2
      have o3 := (HWv.out.cell (p := ⟨b, off + k * 5 + 3, none⟩) hbv).trans r3
      have o4 := (HWv.out.cell (p := ⟨b, off + k * 5 + 4, none⟩) hbv).trans r4
      have hfk := HF.out k hkN
      obtain ⟨x, hx⟩ : ∃ x, f k = x := ⟨_, rfl⟩
      rw [hx] at o0 o1 o2 o3 o4 hfk
      have hk0 : (0 : Int) ≤ (k : Int) := by omega
      have hkn : (k : Int) < (N : Int) := by omega
      have hwk : IntKind.i64.wrap ((k : Int) + 1) = (k : Int) + 1 := IntWalk.i64_in _ (by omega)
      have hal : Below wr.heap.size wr (wr.alloc (.cells #[.string x.c, .string x.f, .int .i64 x.t, .int .i64 x.h, .int .i64 x.b] 24)) := (Below.refl _ _).alloc (Nat.le_refl _) _
      have HAl := Lib.hid hal
      clear hr r0 r1 r2 r3 r4 hx hal
      by_cases hE : stE x = 0
      · rcases idx_cases l x.c with ⟨j, h1, h2, h3⟩ | ⟨h1, h2⟩
        · have HP := Lib.hid (Put_dup (g := v) (HBo.out.below HAl.out) (by rw [HL.out.1]; omega) hfk.1 hfk.2 hE (by omega))
          clear h1 h2 h3 hE hfk
          obtain ⟨xc, xf, xt, xh, xb⟩ := x
          dsimp only at *
          go_wp2_with (go_at_call 7; go_loud (refine HP.out.mono ?_; rintro e w3 ⟨rfl, hb3⟩; have H3 := Lib.hid (HAl.out.trans (hb3.mono (by simp))); clear hb3))
          go_roundw
          case rel => exact ⟨k + 1, m, l, B, cB, V, cv, by omega, by go_num, rfl, Lib.hid ⟨HL.out.1, by omega⟩, HD, HBo.out.below H3.out, Lib.hid (own_below HV.out H3.out (Nat.le_refl _)), HAp, Lib.hid (HW.out.trans (H3.out.mono (Nat.le_of_lt hgr)))⟩
          case measure => simp [intOf]; omega
        · have hPO := Put_ok (g := v) (x := ⟨x, hE⟩) (HBo.out.below HAl.out) (by rw [HL.out.1]; omega) hfk.1 hfk.2 h1
          have HDn := Lib.hid (dist_snoc HD.out (x := ⟨x, hE⟩) h2)
          obtain ⟨xv, hxv⟩ : ∃ xv : Va, (⟨x, hE⟩ : Va) = xv := ⟨_, rfl⟩
          have hxe : xv.1 = x := by rw [← hxv]
          rw [hxv] at HDn
          have HP : Hid (Calls Tryd.prog 7 #[.pointer (some ⟨v, 0, none⟩), .agg #[.string x.c, .string x.f, .int .i64 x.t, .int .i64 x.h, .int .i64 x.b]] (wr.alloc (.cells #[.string x.c, .string x.f, .int .i64 x.t, .int .i64 x.h, .int .i64 x.b] 24)) (PutP v B l xv (wr.alloc (.cells #[.string x.c, .string x.f, .int .i64 x.t, .int .i64 x.h, .int .i64 x.b] 24)))) := Lib.hid (by rw [← hxv]; exact hPO)
          have HXr : Hid (strsK (cl l) ++ (#[Value.string x.c]).toList = strsK (cl (l ++ [xv]))) := Lib.hid (by unfold cl strsK; rw [List.map_append, rowsV_append, List.map_singleton, hxe]; rfl)
          clear h1 h2 hPO hxv hxe hE hfk
          obtain ⟨xc, xf, xt, xh, xb⟩ := x
          dsimp only at *
          have HNew := Lib.hid (heap_alloc_new wr (.cells #[.string xc, .string xf, .int .i64 xt, .int .i64 xh, .int .i64 xb] 24))
          go_wp2_with (first
            | (go_at_call 7; go_loud (refine HP.out.mono ?_; rintro e w3 ⟨B', cB', rfl, hbd, hbl, hoff, hA'⟩; have HBd3 := Lib.hid hbd; have HBl3 := Lib.hid hbl; have HOf := Lib.hid hoff; have HA' := Lib.hid hA'; have hz3 := hbl.size; simp at hz3; have HV3 := Lib.hid (hoff.own (by simp; omega) (HV.out.alloc _) (fun e => by have := (HV.out.lt v e).1; omega) HAp.out); have HAp3 := Lib.hid (Off.apart (m' := (l ++ [xv]).length) (c' := cB') hA' (HV.out.alloc _) HAp.out); have HT3 := Lib.hid ((hoff wr.heap.size (by simp) (by omega) (fun a ha e => by have h9 := (HBo.out.2.lt a.block (by rw [ha]; rfl)).2; omega)).trans HNew.out); have t0 := cell_of_row w3 wr.heap.size 0 _ 24 (0, 0) HT3.out; have t1 := cell_of_row w3 wr.heap.size 1 _ 24 (0, 0) HT3.out; have t2 := cell_of_row w3 wr.heap.size 2 _ 24 (0, 0) HT3.out; have t3 := cell_of_row w3 wr.heap.size 3 _ 24 (0, 0) HT3.out; have t4 := cell_of_row w3 wr.heap.size 4 _ 24 (0, 0) HT3.out; clear hbd hbl hoff hA'))
            | (at_builtin; go_loud (refine wpList_append_oneN w3 w3.heap.size rfl #[.string xc] rfl (.tmp 37) (.tmp 40) 34 rfl (v + 1) 9 i9 (.string ByteArray.empty) 1 16 Tryd.underlying34 E0 E1 E2 E3 rfl (by decide) (.slice V m cv) m _ rfl HV3.out rfl rfl (by simp [Value.oneCell']) (by omega) (by decide) (by omega) ?_); intro g6 cap6 w6 hv6 hg6 hat6 hlt6))
          go_roundw
          case rel =>
            refine ⟨k + 1, m + 1, l ++ [xv], B', cB', some ⟨g6, 0, none⟩, cap6, by omega, by go_num, rfl, Lib.hid ⟨by rw [List.length_append, HL.out.1]; rfl, by omega⟩, HDn, ?_, ?_, ?_, ?_⟩
            · exact Lib.hid (HBd3.out.grown HV3.out (by omega) HAp3.out _ hg6)
            · exact Lib.hid (HXr.out ▸ hv6)
            · have h9 := apart_app (g := g6) (m := m + 1) (cap := cap6) HAp3.out HBd3.out.2 hat6
              rw [List.length_append, HL.out.1] at h9
              exact Lib.hid h9
            · exact Lib.hid (below_app ((HW.out.alloc (Nat.le_of_lt hgr) _).trans HBl3.out) (by omega) HV3.out (by omega) hg6)
          case measure => simp [intOf]; omega
      · have HP := Lib.hid (Put_no (g := v) (x := x) (w := wr.alloc (.cells #[.string x.c, .string x.f, .int .i64 x.t, .int .i64 x.h, .int .i64 x.b] 24)) hfk.1 hfk.2 hE)
        obtain ⟨r, hr⟩ : ∃ r, stE x = r := ⟨_, rfl⟩
        rw [hr] at HP hE
        have hr0 : (r == 0) = false := by simpa using hE
        clear hE hfk hr
        obtain ⟨xc, xf, xt, xh, xb⟩ := x
        dsimp only at *
        go_wp2_with (go_at_call 7; go_loud (refine HP.out.mono ?_; rintro e w3 ⟨rfl, hb3⟩; have H3 := Lib.hid (HAl.out.trans (hb3.mono (by simp))); clear hb3))
        go_roundw
        case rel => exact ⟨k + 1, m, l, B, cB, V, cv, by omega, by go_num, rfl, Lib.hid ⟨HL.out.1, by omega⟩, HD, HBo.out.below H3.out, Lib.hid (own_below HV.out H3.out (Nat.le_refl _)), HAp, Lib.hid (HW.out.trans (H3.out.mono (Nat.le_of_lt hgr)))⟩
        case measure => simp [intOf]; omega
    · obtain rfl : N = k := by omega
      have HNd := Lib.hid (nd_of_dist HD.out)
      have hml : m ≤ 12 := by omega
      have HLm := Lib.hid HL.out.1
      obtain ⟨wm, rfl⟩ : ∃ wm : World, wm = wr := ⟨_, rfl⟩
      go_wp2_with fail
      go_loopw [49] (fun i wr => ∃ (q : Nat) (l' : List Va), q ≤ K ∧ i = .int .i64 (q : Int) ∧ Hid (cl l' = cl l) ∧ Hid (BdV v B cB l' wr) ∧ Hid (wr.ownsRow (v + 1) 9 1 (.slice V m cv) m (strsK (cl l))) ∧ Hid (Below v w0 wr)) (fun i _ => K - (intOf i).toNat)
      case atStart => exact ⟨0, l, by omega, rfl, Lib.hid rfl, HBo, HV, HW⟩
      case round =>
        obtain ⟨q, l', hq, rfl, HCl, HBq, HVq, HWq⟩ := hrel
        have HL' : Hid (l'.length = m) := Lib.hid (by have h := congrArg List.length HCl.out; unfold cl at h; rw [List.length_map, List.length_map] at h; exact h.trans HLm.out)
        have HWw := Lib.hid (HB2.out.trans HWq.out)
        have hgq := HBq.out.a.lt
        by_cases hqK : q < K
        · obtain ⟨b2, off2, rfl, hbb2, hr2⟩ := HMv.out.one (by omega)
          have hb2v : b2 < v := by have := HVe.out; omega
          have o0 := (HWw.out.cell (p := ⟨b2, off2 + q, none⟩) hb2v).trans (hr2 q hqK)
          have hq0 : (0 : Int) ≤ (q : Int) := by omega
          have hqn : (q : Int) < (K : Int) := by omega
          have hwq : IntKind.i64.wrap ((q : Int) + 1) = (q : Int) + 1 := IntWalk.i64_in _ (by omega)
          have hb2w : b2 < wr.heap.size := by omega
          have HCut := Lib.hid (fun (W : World) => Cut_any (f2 q) 0 3 W (by omega) (by omega) (by omega))
          have hbd := cutI_bd (n := f2 q) (show (0 : Int) ≤ 3 by decide)
          generalize cutI (f2 q) 0 3 = bay at *
          generalize f2 q = f2q at *
          have HBay := Lib.hid hbd
          clear hbd hr2
          by_cases hm0 : m = 0
          · have hmz : decide ((0 : Int) < (m : Int)) = false := decide_eq_false (by omega)
            go_wp2_with fail
            go_roundw
            case rel => exact ⟨q + 1, l', by omega, by go_num, HCl, HBq, HVq, HWq⟩
            case measure => simp [intOf]; omega
          · have hmz : decide ((0 : Int) < (m : Int)) = true := decide_eq_true (by omega)
            obtain ⟨k2, hk2⟩ : ∃ k2, q % m = k2 := ⟨_, rfl⟩
            have hk2l : k2 < m := by rw [← hk2]; exact Nat.mod_lt _ (by omega)
            have hrem : (q : Int).tmod (m : Int) = (k2 : Int) := by
              rw [← hk2, Int.tmod_eq_emod_of_nonneg (by omega)]
              exact (Int.natCast_emod q m).symm
            have hwk2 : IntKind.i64.wrap (k2 : Int) = (k2 : Int) := IntWalk.i64_in _ (by omega)
            have hpz : ((m : Int) == 0) = false := beq_eq_false_iff_ne.2 (by omega)
            have hpz2 : ((q : Int) == -9223372036854775808) = false := beq_eq_false_iff_ne.2 (by omega)
            have hpz3 : ¬ m = 0 := hm0
            obtain ⟨bv, ov, rfl, hbv, hrv⟩ := (Sl_rows strV_len HVq.out (by unfold cl; rw [List.length_map]; exact HLm.out) (by decide)).one (by omega)
            have s0 := hrv k2 hk2l
            generalize (cl l)[k2]! = str at *
            have hk20 : (0 : Int) ≤ (k2 : Int) := by omega
            have hk2n : (k2 : Int) < (m : Int) := by omega
            have HMove := Lib.hid (Move_any (s := str) (show BdV v B cB l' wr.drew from HBq.out) (by rw [HL'.out]; omega) HBay.out)
            clear hk2 hrv hm0
            go_wp2_with fail
            refine wp_region_still_tail 10 (by kernel_rfl) (by kernel_rfl) ?_
            simp only [List.take_succ_cons, List.take_zero, List.drop_succ_cons, List.drop_zero]
            refine wpStill_of_quiet _ _ ?_
            repeat (go_big_quiet_step (fail))
            go_big_quiet_want
            go_big_quiet_op
            refine ⟨_, (HCut.out _).mono fun _ _ h => ⟨h.1, h.2.symm⟩, ?_⟩
            go_big_quiet_on
            refine wpQuiet_nil ?_
            change wpList _ _ _ _ _ wr.drew
            go_wp2_with (go_at_call 10; go_loud (refine HMove.out.mono ?_; rintro e w3 ⟨r, l2, rfl, hbd, hbl, hoff, hcl⟩; have HBd3 := Lib.hid hbd; have HBl3 := Lib.hid hbl; have HCl3 := Lib.hid hcl; have HV3 := Lib.hid (hoff.own hbl.size (show wr.drew.ownsRow _ _ _ _ _ _ from HVq.out) (fun e => by have := (HVq.out.lt v e).1; omega) HAp.out); clear hbd hbl hoff hcl))
            go_roundw
            case rel => exact ⟨q + 1, l2, by omega, by go_num, Lib.hid (HCl3.out.trans HCl.out), HBd3, HV3, Lib.hid (HWq.out.trans ((Below.refl v wr).drew.trans HBl3.out))⟩
            case measure => simp [intOf]; omega
        · obtain rfl : K = q := by omega
          have HNd2 : Hid (CallsNd l') := Lib.hid (by have h := HNd.out; unfold CallsNd at h ⊢; have h2 := HCl.out; unfold cl at h2; rw [h2]; exact h)
          obtain ⟨wb, rfl⟩ : ∃ wb : World, wb = wr := ⟨_, rfl⟩
          clear HMv HBo HV HW hq
          go_wp2_with fail
          go_loopw [11, 69] (fun a i wr => ∃ (bq mm : Nat) (AL : Option Addr) (cA : Nat), bq ≤ 4 ∧ i = .int .i64 (bq : Int) ∧ a = .slice AL mm cA ∧ Hid (∃ S : Nat → List Va, (∀ k, k < bq → (S k).Perm (bayF (k : Int) l')) ∧ wr.ownsRow wb.heap.size 9 1 (.slice AL mm cA) mm (strsK (callsS S bq)) ∧ (callsS S bq).length = mm) ∧ Hid (mm ≤ 15 * bq) ∧ Hid (Below wb.heap.size wb wr)) (fun _ i _ => 4 - (intOf i).toNat)
          case atStart => exact ⟨0, 0, none, 0, by omega, rfl, rfl, Lib.hid ⟨fun _ => [], fun k hk => absurd hk (by omega), World.ownsRow_nil _ _ _ _, rfl⟩, Lib.hid (by omega), Lib.hid (Below.refl _ _)⟩
          case round =>
            obtain ⟨bq, mm, AL, cA, hbq, rfl, rfl, HSx, HMm, HR⟩ := hrel
            by_cases hb4 : bq < 4
            · obtain ⟨S, hS1, hS2, hS3⟩ := HSx.out
              have HS1 := Lib.hid hS1
              have HO := Lib.hid hS2
              have HSl := Lib.hid hS3
              have HBay := Lib.hid (Bay_any (HBq.out.below HR.out) (bq : Int) (by rw [HL'.out]; omega))
              have hbl := bayF_len (bq : Int) l'
              unfold BayP at HBay
              obtain ⟨m3, hm3⟩ : ∃ m3, (bayF (bq : Int) l').length = m3 := ⟨_, rfl⟩
              rw [hm3] at HBay hbl
              have HM3 := Lib.hid hm3
              have hm15 : m3 ≤ 12 := by have := HL'.out; omega
              have hb0 : (0 : Int) ≤ (bq : Int) := by omega
              have hb4' : (bq : Int) < 4 := by omega
              have hwb : IntKind.i64.wrap ((bq : Int) + 1) = (bq : Int) + 1 := IntWalk.i64_in _ (by omega)
              have hmm60 : mm ≤ 60 := by have := HMm.out; omega
              have hzR := HR.out.size
              clear hm3 hbl hS1 hS2 hS3 HSx
              obtain ⟨wo, rfl⟩ : ∃ wo : World, wo = wr := ⟨_, rfl⟩
              go_wp2_with (go_at_call 12; go_loud (refine HBay.out.mono ?_; rintro e w3 ⟨A', c', s, rfl, hp, hs, hsl, hb3, hA'⟩; have HP := Lib.hid hp; have HSs := Lib.hid hs; have HSv := Lib.hid hsl; have HB3 := Lib.hid hb3; have HA' := Lib.hid hA'; have hz3 := hb3.size; have HO3 := Lib.hid (own_below HO.out hb3 (Nat.le_refl _)); have HAp3 := Lib.hid (show ∀ a, A' = some a → (Value.slice AL mm cA).ownBlock ≠ some a.block from fun a ha e => by have h1 := (HO.out.lt _ e).2; have h2 := hA' a ha; omega); have HR3 := Lib.hid (HR.out.trans (hb3.mono hzR)); clear hp hs hsl hb3 hA'))
              obtain ⟨w4, rfl⟩ : ∃ w4 : World, w4 = w3 := ⟨_, rfl⟩
              go_loopw [11, 77] (fun a i wr => ∃ (j m4 : Nat) (AL4 : Option Addr) (c4 : Nat), j ≤ m3 ∧ i = .int .i64 (j : Int) ∧ a = .slice AL4 m4 c4 ∧ Hid (m4 = mm + j) ∧ Hid (wr.ownsRow wb.heap.size 9 1 (.slice AL4 m4 c4) m4 (strsK (callsS S bq ++ (s.take j).map (fun z : Va => z.1.c)))) ∧ Hid (∀ a, A' = some a → 0 < m3 → wr.heap[a.block]? = w4.heap[a.block]? ∧ (Value.slice AL4 m4 c4).ownBlock ≠ some a.block ∧ a.block < wr.heap.size) ∧ Hid (Below wb.heap.size wb wr)) (fun _ i _ => m3 - (intOf i).toNat)
              case atStart => exact ⟨0, mm, AL, cA, by omega, rfl, rfl, Lib.hid rfl, Lib.hid (by rw [List.take_zero, List.map_nil, List.append_nil]; exact HO3.out), Lib.hid (fun a ha h0 => ⟨rfl, HAp3.out a ha, by obtain ⟨b9, o9, e9, h9, _⟩ := HSv.out h0; rw [ha] at e9; cases e9; exact h9⟩), HR3⟩
              case round =>
                obtain ⟨j, m4, AL4, c4, hj, rfl, rfl, HM4, HO4, HK4, HR4⟩ := hrel
                by_cases hjm : j < m3
                · obtain ⟨bs, os, rfl, hbs, hrs⟩ := HSv.out (by omega)
                  obtain ⟨hblk, hne4, hlt4⟩ := HK4.out ⟨bs, os, none⟩ rfl (by omega)
                  have hblk : wr.heap[bs]? = w4.heap[bs]? := hblk
                  have hlt4 : bs < wr.heap.size := hlt4
                  have hcs : ∀ i, i < m3 → ∀ q v, (vaV s[i]!)[q]? = some v → wr.cell? ⟨bs, os + i * 5 + q, none⟩ = some v := fun i hi q v hv => (World.cell?_of_block (w := w4) (w' := wr) (a := ⟨bs, os + i * 5 + q, none⟩) hblk).trans (hrs i hi q v hv)
                  have hsl : s.length = m3 := by rw [HP.out.length_eq, HM3.out]
                  have hxb : s[j]!.1.b = (bq : Int) := by
                    have h1 : s[j]! ∈ s := by rw [getElem!_pos s j (by omega)]; exact List.getElem_mem _
                    have h2 := (HP.out.mem_iff).1 h1
                    unfold bayF at h2
                    simpa using (List.mem_filter.1 h2).2
                  have HLs : Hid (strsK (callsS S bq ++ (s.take j).map (fun z : Va => z.1.c)) ++ (#[Value.string s[j]!.1.c]).toList = strsK (callsS S bq ++ (s.take (j + 1)).map (fun z : Va => z.1.c))) := Lib.hid (by
                    rw [List.take_add_one, List.getElem?_eq_getElem (show j < s.length by omega), getElem!_pos s j (by omega)]
                    unfold strsK
                    rw [List.map_append, ← List.append_assoc, rowsV_append strV (callsS S bq ++ _)]
                    rfl)
                  have hm4 : m4 ≤ 80 := by have := HM4.out; omega
                  have hzw := HR4.out.size
                  have hbn : bs ≠ wr.heap.size := by omega
                  have l1 : (j : Int) < (m3 : Int) := by omega
                  have l0 : (0 : Int) ≤ (j : Int) := by omega
                  have hwj : IntKind.i64.wrap ((j : Int) + 1) = (j : Int) + 1 := IntWalk.i64_in _ (by omega)
                  have hd0 : wr.cell? ⟨bs, os + j * 5, none⟩ = some (.string s[j]!.1.c) := hcs j hjm 0 _ rfl
                  have hd1 : wr.cell? ⟨bs, os + j * 5 + 1, none⟩ = some (.string s[j]!.1.f) := hcs j hjm 1 _ rfl
                  have hd2 : wr.cell? ⟨bs, os + j * 5 + 2, none⟩ = some (.int .i64 s[j]!.1.t) := hcs j hjm 2 _ rfl
                  have hd3 : wr.cell? ⟨bs, os + j * 5 + 3, none⟩ = some (.int .i64 s[j]!.1.h) := hcs j hjm 3 _ rfl
                  have hd4 : wr.cell? ⟨bs, os + j * 5 + 4, none⟩ = some (.int .i64 s[j]!.1.b) := hcs j hjm 4 _ rfl
                  rw [hxb] at hd4
                  have HCs := Lib.hid hcs
                  have HHl := Lib.hid hsl
                  have t1 : ((bq : Int) != (bq : Int)) = false := by simp
                  clear hcs hsl hxb hrs hblk hne4
                  rcases Nat.eq_zero_or_pos j with hj0 | hj0
                  · have hj0' : ¬ 0 < j := by omega
                    generalize s[j]!.1.c = xc at *
                    generalize s[j]!.1.f = xf at *
                    generalize s[j]!.1.t = xt at *
                    generalize s[j]!.1.h = xh at *
                    clear hj0
                    go_wp2_with fail
                    go_quiet (fail)
                    go_wp2_with (at_builtin; go_loud (refine wpList_append_oneN ((wr.alloc (.cells #[.string xc, .string xf, .int .i64 xt, .int .i64 xh, .int .i64 (bq : Int)] 24)).drewN nq) (wr.heap.size + 1) (by simp) #[.string xc] rfl (.tmp 123) (.tmp 126) 34 rfl wb.heap.size 9 i9 (.string ByteArray.empty) 1 16 Tryd.underlying34 E0 E1 E2 E3 rfl (by decide) (.slice AL4 m4 c4) m4 _ rfl (show World.ownsRow _ _ _ _ _ _ _ from HO4.out.alloc _) rfl rfl (by simp [Value.oneCell']) (by omega) (by decide) (by simp; omega) ?_); intro g6 cap6 w6 hv6 hg6 hat6 hlt6)
                    have hAl : Below wr.heap.size wr ((wr.alloc (.cells #[.string xc, .string xf, .int .i64 xt, .int .i64 xh, .int .i64 (bq : Int)] 24)).drewN nq) := below_drewN ((Below.refl _ wr).alloc (Nat.le_refl _) _) _
                    go_roundw
                    case rel =>
                      refine ⟨j + 1, m4 + 1, some ⟨g6, 0, none⟩, cap6, by omega, by go_num, rfl, Lib.hid (by have := HM4.out; omega), ?_, ?_, ?_⟩
                      · exact Lib.hid (HLs.out ▸ hv6)
                      · refine Lib.hid (fun a ha h0 => ?_)
                        cases ha
                        obtain ⟨k1, k2, k3⟩ := HK4.out _ rfl h0
                        refine ⟨?_, ?_, Nat.lt_of_lt_of_le k3 (Nat.le_trans hAl.size (Nat.le_trans (by simp) hg6.size))⟩
                        · exact (hg6.block bs (by simp; omega) (fun e => k2 e.symm)).trans ((Below.heap_alloc _ _ bs (by simp; omega)).trans ((hAl.block bs k3).trans k1))
                        · intro e
                          have e : g6 = bs := by simpa [Value.ownBlock] using e
                          rcases hat6 with h | h
                          · exact k2 (by rw [h, e])
                          · simp at h; omega
                      · exact Lib.hid (below_app (HR4.out.trans (hAl.mono hzw)) (Nat.le_trans hzw hAl.size) (show World.ownsRow _ _ _ _ _ _ _ from HO4.out.alloc _) (Nat.le_refl _) hg6)
                    case measure => simp [intOf]; omega
                  · obtain ⟨j', hj'⟩ : ∃ j', j = j' + 1 := ⟨j - 1, by omega⟩
                    have hj0' : 0 < j := by omega
                    have hji : (j : Int) - 1 = (j' : Int) := by omega
                    have hjw : IntKind.i64.wrap (j' : Int) = (j' : Int) := IntWalk.i64_in _ (by omega)
                    have hst := bay_step HNd2.out HP.out HSs.out (k := j') (by rw [HHl.out]; omega)
                    rw [← hj'] at hst
                    have hjm' : (j' : Int) < (m3 : Int) := by omega
                    have hj'0 : (0 : Int) ≤ (j' : Int) := by omega
                    have hy0 : wr.cell? ⟨bs, os + j' * 5, none⟩ = some (.string s[j']!.1.c) := HCs.out j' (by omega) 0 _ rfl
                    have hy2 : wr.cell? ⟨bs, os + j' * 5 + 2, none⟩ = some (.int .i64 s[j']!.1.t) := HCs.out j' (by omega) 2 _ rfl
                    obtain ⟨hst1, hst2⟩ := hst
                    have t2 : decide (s[j]!.1.t < s[j']!.1.t) = false := decide_eq_false hst1
                    generalize s[j]!.1.c = xc at *
                    generalize s[j]!.1.f = xf at *
                    generalize s[j]!.1.t = xt at *
                    generalize s[j]!.1.h = xh at *
                    generalize s[j']!.1.c = yc at *
                    generalize s[j']!.1.t = yt at *
                    have HJ := Lib.hid hj'
                    clear hj0 hj' hst1
                    by_cases ht : xt = yt
                    · have t3 : (xt == yt) = true := by simpa using ht
                      obtain ⟨h5, h6⟩ := hst2 ht
                      have t4 : Op.bytesLess xc.toList yc.toList = false := h5
                      have t5 : (xc.toList == yc.toList) = false := by rw [ba_beq]; simpa using h6
                      clear ht hst2 h5 h6
                      go_wp2_with fail
                      go_quiet (fail)
                      go_wp2_with (at_builtin; go_loud (refine wpList_append_oneN ((wr.alloc (.cells #[.string xc, .string xf, .int .i64 xt, .int .i64 xh, .int .i64 (bq : Int)] 24)).drewN nq) (wr.heap.size + 1) (by simp) #[.string xc] rfl (.tmp 123) (.tmp 126) 34 rfl wb.heap.size 9 i9 (.string ByteArray.empty) 1 16 Tryd.underlying34 E0 E1 E2 E3 rfl (by decide) (.slice AL4 m4 c4) m4 _ rfl (show World.ownsRow _ _ _ _ _ _ _ from HO4.out.alloc _) rfl rfl (by simp [Value.oneCell']) (by omega) (by decide) (by simp; omega) ?_); intro g6 cap6 w6 hv6 hg6 hat6 hlt6)
                      have hAl : Below wr.heap.size wr ((wr.alloc (.cells #[.string xc, .string xf, .int .i64 xt, .int .i64 xh, .int .i64 (bq : Int)] 24)).drewN nq) := below_drewN ((Below.refl _ wr).alloc (Nat.le_refl _) _) _
                      go_roundw
                      case rel =>
                        refine ⟨j + 1, m4 + 1, some ⟨g6, 0, none⟩, cap6, by omega, by go_num, rfl, Lib.hid (by have := HM4.out; omega), ?_, ?_, ?_⟩
                        · exact Lib.hid (HLs.out ▸ hv6)
                        · refine Lib.hid (fun a ha h0 => ?_)
                          cases ha
                          obtain ⟨k1, k2, k3⟩ := HK4.out _ rfl h0
                          refine ⟨?_, ?_, Nat.lt_of_lt_of_le k3 (Nat.le_trans hAl.size (Nat.le_trans (by simp) hg6.size))⟩
                          · exact (hg6.block bs (by simp; omega) (fun e => k2 e.symm)).trans ((Below.heap_alloc _ _ bs (by simp; omega)).trans ((hAl.block bs k3).trans k1))
                          · intro e
                            have e : g6 = bs := by simpa [Value.ownBlock] using e
                            rcases hat6 with h | h
                            · exact k2 (by rw [h, e])
                            · simp at h; omega
                        · exact Lib.hid (below_app (HR4.out.trans (hAl.mono hzw)) (Nat.le_trans hzw hAl.size) (show World.ownsRow _ _ _ _ _ _ _ from HO4.out.alloc _) (Nat.le_refl _) hg6)
                      case measure => simp [intOf]; omega
                    · have t3 : (xt == yt) = false := by simpa using ht
                      clear ht hst2
                      go_wp2_with fail
                      go_quiet (fail)
                      go_wp2_with (at_builtin; go_loud (refine wpList_append_oneN ((wr.alloc (.cells #[.string xc, .string xf, .int .i64 xt, .int .i64 xh, .int .i64 (bq : Int)] 24)).drewN nq) (wr.heap.size + 1) (by simp) #[.string xc] rfl (.tmp 123) (.tmp 126) 34 rfl wb.heap.size 9 i9 (.string ByteArray.empty) 1 16 Tryd.underlying34 E0 E1 E2 E3 rfl (by decide) (.slice AL4 m4 c4) m4 _ rfl (show World.ownsRow _ _ _ _ _ _ _ from HO4.out.alloc _) rfl rfl (by simp [Value.oneCell']) (by omega) (by decide) (by simp; omega) ?_); intro g6 cap6 w6 hv6 hg6 hat6 hlt6)
                      have hAl : Below wr.heap.size wr ((wr.alloc (.cells #[.string xc, .string xf, .int .i64 xt, .int .i64 xh, .int .i64 (bq : Int)] 24)).drewN nq) := below_drewN ((Below.refl _ wr).alloc (Nat.le_refl _) _) _
                      go_roundw
                      case rel =>
                        refine ⟨j + 1, m4 + 1, some ⟨g6, 0, none⟩, cap6, by omega, by go_num, rfl, Lib.hid (by have := HM4.out; omega), ?_, ?_, ?_⟩
                        · exact Lib.hid (HLs.out ▸ hv6)
                        · refine Lib.hid (fun a ha h0 => ?_)
                          cases ha
                          obtain ⟨k1, k2, k3⟩ := HK4.out _ rfl h0
                          refine ⟨?_, ?_, Nat.lt_of_lt_of_le k3 (Nat.le_trans hAl.size (Nat.le_trans (by simp) hg6.size))⟩
                          · exact (hg6.block bs (by simp; omega) (fun e => k2 e.symm)).trans ((Below.heap_alloc _ _ bs (by simp; omega)).trans ((hAl.block bs k3).trans k1))
                          · intro e
                            have e : g6 = bs := by simpa [Value.ownBlock] using e
                            rcases hat6 with h | h
                            · exact k2 (by rw [h, e])
                            · simp at h; omega
                        · exact Lib.hid (below_app (HR4.out.trans (hAl.mono hzw)) (Nat.le_trans hzw hAl.size) (show World.ownsRow _ _ _ _ _ _ _ from HO4.out.alloc _) (Nat.le_refl _) hg6)
                      case measure => simp [intOf]; omega
                · obtain rfl : m3 = j := by omega
                  go_wp2_with fail
                  go_roundw
                  case rel =>
                    refine ⟨bq + 1, m4, AL4, c4, by omega, by go_num, rfl, ?_, ?_, HR4⟩
                    · refine Lib.hid ⟨fun k => if k = bq then s else S k, fun k hk => ?_, ?_, ?_⟩
                      · by_cases e : k = bq
                        · subst e; simp only [if_pos]; exact HP.out
                        · simp only [if_neg e]; exact HS1.out k (by omega)
                      · have e2 : callsS (fun k => if k = bq then s else S k) (bq + 1) = callsS S bq ++ (s.take m3).map (fun z : Va => z.1.c) := by
                          rw [callsS, List.take_of_length_le (Nat.le_of_eq (by rw [HP.out.length_eq, HM3.out]))]
                          congr 1
                          · exact callsS_congr bq (fun k hk => by simp only [if_neg (show k ≠ bq by omega)])
                          · simp
                        rw [e2]; exact HO4.out
                      · rw [callsS, List.length_append, callsS_congr bq (S' := S) (fun k hk => by simp only [if_neg (show k ≠ bq by omega)]), HSl.out, HM4.out]
                        simp only [if_pos]
                        rw [List.length_map, HP.out.length_eq, HM3.out]
                    · exact Lib.hid (by have h1 := HM4.out; have h2 := HMm.out; omega)
                  case measure => simp [intOf]; omega
            · obtain rfl : bq = 4 := by omega
              obtain ⟨S, hS1, hS2, hS3⟩ := HSx.out
              have hz := HR.out.size
              have hperm : (callsS S 4).Perm (cl l) := by rw [← HCl.out]; exact callsS_perm hS1
              obtain rfl : mm = m := by
                rw [← hS3, hperm.length_eq]
                unfold cl
                rw [List.length_map]
                exact HLm.out
              have HSort1 := Lib.hid (SortC_any wb.heap.size mm cA AL (callsS S 4) wr hS2 hS3 hz (by omega))
              rw [sortS_congr hperm] at HSort1
              have hcl : (cl l).length = mm := by unfold cl; rw [List.length_map]; exact HLm.out
              have HAll := Lib.hid hS2
              have HSort2 := Lib.hid (fun (W : World) (hW : Below wb.heap.size wb W) => SortC_any (v + 1) mm cv V (cl l) W (own_below HVq.out hW (Nat.le_refl _)) hcl (by have := hW.size; omega) (by omega))
              have HCl2 := Lib.hid hcl
              have HBd := Lib.hid (fun (W : World) (hW : Below wb.heap.size wb W) => HBq.out.below hW)
              clear hS1 hS2 hS3 hperm hcl
              have tok1 : True := trivial
              go_wp2_with (first
                | (go_at_call 13; have _t := tok1; go_loud (refine HSort1.out.mono ?_; rintro e w5 ⟨rfl, ho5, hb5, _⟩; have HO5 := Lib.hid ho5; have HB5 := Lib.hid (HR.out.trans hb5); clear ho5 hb5 tok1 _t))
                | (go_at_call 13; go_loud (refine (HSort2.out _ HB5.out).mono ?_; rintro e w6 ⟨rfl, ho6, hb6, hg6⟩; have HO6 := Lib.hid ho6; have HA6 := Lib.hid (own_apart HO5.out hg6 rfl (apart_new HVq.out HO5.out (Nat.le_refl _))); have HBd6 := Lib.hid (show BdV v B cB l' w6 from ⟨(hb6.block v (by omega)).trans (HBd.out _ HB5.out).1, own_apart (HBd.out _ HB5.out).2 hg6 rfl (by rw [HL'.out]; exact HAp.out)⟩); have HB6 := Lib.hid ((HB5.out.mono (Nat.le_of_lt hgq)).trans (hb6.mono (by omega))); clear ho6 hb6 hg6))
                | (go_at_call 14; go_loud (refine (EqualC AL V (fun i => (sortS (cl l))[i]!) mm cA cv w6.heap.size w6 (by have h9 := Sl_rows strV_len HA6.out (by rw [sortS_len]; exact HCl2.out) (by decide); exact h9) (by have h9 := Sl_rows strV_len HO6.out (by rw [sortS_len]; exact HCl2.out) (by decide); exact h9) (by omega)).mono ?_; rintro e w7 ⟨rfl, q7, rfl⟩))
                | (go_at_call 16; go_loud (refine (Text_any (show BdV v B cB l' (w6.drewN q7) from HBd6.out) (by rw [HL'.out]; omega) (HE.out.below (below_drewN (by rw [hv]; exact HWw.out.trans HB6.out) q7))).mono ?_; rintro e w8 ⟨S2, rfl, hS2, hb8⟩; have HNl := Lib.hid (nl_all hS2); have hx8 : Below w6.heap.size w6 w8 := (below_drewN (Below.refl _ w6) q7).trans hb8; have HB8 := Lib.hid (HB6.out.trans (hx8.mono (Nat.le_of_lt HBd6.out.a.lt))); clear hx8; obtain ⟨T, hT⟩ : ∃ T, mk (allSt S2 4) = T := ⟨_, rfl⟩; rw [hT] at HNl ⊢; rw [HL'.out] at HNl; have HCt := Lib.hid (Count_nl T w8); rw [HNl.out] at HCt; clear hS2 hb8 hT))
                | (go_at_call 15; go_loud (refine HCt.out.mono ?_; rintro e w9 ⟨rfl, rfl⟩)))
              go_ret
              refine ⟨rfl, ?_⟩
              first | exact HWw.out.trans HB8.out | (rw [hv]; exact HWw.out.trans HB8.out)
end Go.Proofs.YtadhkncilokdjaaDoor
