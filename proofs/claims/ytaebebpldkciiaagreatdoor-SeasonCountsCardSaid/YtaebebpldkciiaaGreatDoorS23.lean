/- SeasonCounts: the walk. -/
import Derived.Test.YtaebebpldkciiaaGreatDoorB3
import Derived.Test.YtaebebpldkciiaaGreatDoorS21
import Derived.Test.YtaebebpldkciiaaGreatDoorS22
namespace Go.Proofs.YtaebebpldkciiaaGreatDoor
open Go.RowKit

set_option maxRecDepth 100000 in
/-- The function that counts. -/
theorem cl22 (x : Inp) (A : Option Addr) (n cA g R : Nat) (e q : Int) (w : World) (hr : w.heap[R]? = some (.cells #[.int .i64 q] 3 (0, 0))) (hq : 0 ≤ q ∧ q < 1000) :
    Calls Tryz.prog 22 #[.pointer (some ⟨g, 0, none⟩), inpV x A n cA, .int .i64 e, .pointer (some ⟨R, 0, none⟩)] w fun en w' => en = .returned (.bool true) ∧ w'.heap[R]? = some (.cells #[.int .i64 (if e = 0 then q + 1 else q)] 3 (0, 0)) ∧ Below R w w' ∧ ∀ k, R < k → k < w.heap.size → w'.heap[k]? = w.heap[k]? := by
  have hl : R < w.heap.size := (Array.getElem?_eq_some_iff.1 hr).1
  unfold inpV
  obtain ⟨V, hV⟩ : ∃ V, w.alloc (.cells #[.int .i64 x.kind, .int .i64 x.time, .string x.call, .string x.by_, .string x.to_, .slice A n cA, .int .i64 x.wake, .int .i64 x.slot, .bool x.lands] 62) = V := ⟨_, rfl⟩
  have hb : Below w.heap.size w V := by rw [← hV]; exact (Below.refl _ _).alloc (Nat.le_refl _) _
  have hrV : V.heap[R]? = some (.cells #[.int .i64 q] 3 (0, 0)) := (hb.block R hl).trans hr
  have HBV := Lib.hid hb
  have HL := Lib.hid hl
  have c0 : V.cell? ⟨R, 0, none⟩ = some (.int .i64 q) := cell_of_row V _ 0 _ _ _ hrV
  have f0 : V.frozen? ⟨R, 0, none⟩ = false := frozen_of_row V _ 0 _ _ hrV
  have HR := Lib.hid hrV
  have hqw : IntKind.i64.wrap (q + 1) = q + 1 := IntWalk.i64_in _ (by omega)
  clear hb hl hr hrV hq
  by_cases he : e = 0
  · subst he
    rw [if_pos rfl]
    go_enter Tryz.func22, Tryz.ntmps22
    go_wp2_with fail
    go_ret
    refine ⟨rfl, heap_setCell_same V R 0 _ 3 _ HR.out, (HBV.out.mono (Nat.le_of_lt HL.out)).setCell (Nat.le_refl _) _, fun k h1 h2 => ?_⟩
    exact (Below.heap_setCell _ _ _ _ (by show ¬ _ = R; omega)).trans (HBV.out.block k h2)
  · have he2 : (e == 0) = false := by simp [he]
    rw [if_neg he]
    clear he
    go_enter Tryz.func22, Tryz.ntmps22
    go_wp2_with fail
    go_ret
    exact ⟨rfl, HR.out, HBV.out.mono (Nat.le_of_lt HL.out), fun k _ h2 => HBV.out.block k h2⟩
/-- What holds behind k inputs. -/
def CntJ (S : Su) (l : List Inp) (R k : Nat) (c : Ce) (F : Nat → Prop) (W : World) : Prop := W.heap[R]? = some (.cells #[.int .i64 ((trk kindsS S l k).2 : Int)] 3 (0, 0)) ∧ ¬ F R ∧ c = (trk kindsS S l k).1
theorem run22c (S : Su) (l : List Inp) (hs : List Hd) (R N1 m : Nat) (hm : m ≤ 900) (hR : R < N1) : RunF kindsS S l hs R N1 m 22 #[.pointer (some ⟨R, 0, none⟩)] (CntJ S l R) := by
  intro k c F F' g wa wb hk hS hC hacc hJ hF hF' hN1 hb hce hoff hFF hT
  obtain ⟨h1, h2, h3⟩ := hJ
  have hle := trk_le kindsS S l k
  have hl : R < wa.heap.size := by omega
  have hr : wb.heap[R]? = _ := (hoff.block R hl h2).trans h1
  refine (cl22 l[k]! (hs[k]!).A (hs[k]!).n (hs[k]!).c g R (stepP kindsS S c l[k]!).2 _ wb hr (by omega)).mono ?_
  rintro e w' ⟨rfl, hr', hb', hk'⟩
  refine ⟨rfl, ⟨hb', fun q hq hq2 => hk' q (by omega) hq2⟩, ?_, fun h => by rcases hFF R h with h | h; exact h2 h; omega, ?_⟩
  · rw [hr']
    subst h3
    show some (Obj.cells #[.int .i64 (if _ then _ else _)] 3 (0, 0)) = some (.cells #[.int .i64 ((if _ then _ else _ : Nat) : Int)] 3 (0, 0))
    split <;> rfl
  · subst h3
    rfl
theorem set8c {W : World} {b : Nat} {u0 u1 u2 u3 u4 u5 u6 u7 : Value} (h : W.heap[b]? = some (.cells #[u0, u1, u2, u3, u4, u5, u6, u7] 32 (0, 0))) (v0 v1 v2 v3 v4 v5 v6 v7 : Value) : ((((((((W.setCell ⟨b, 0, none⟩ v0).setCell ⟨b, 1, none⟩ v1).setCell ⟨b, 2, none⟩ v2).setCell ⟨b, 3, none⟩ v3).setCell ⟨b, 4, none⟩ v4).setCell ⟨b, 5, none⟩ v5).setCell ⟨b, 6, none⟩ v6).setCell ⟨b, 7, none⟩ v7).heap[b]? = some (.cells #[v0, v1, v2, v3, v4, v5, v6, v7] 32 (0, 0)) := by
  have r0 := heap_setCell_same (W) b 0 _ 32 v0 h
  obtain ⟨W0, hW0⟩ : ∃ X, (W).setCell ⟨b, 0, none⟩ v0 = X := ⟨_, rfl⟩
  rw [hW0] at r0 ⊢
  replace r0 : W0.heap[b]? = some (.cells #[v0, u1, u2, u3, u4, u5, u6, u7] 32 (0, 0)) := r0
  clear hW0
  have r1 := heap_setCell_same (W0) b 1 _ 32 v1 r0
  obtain ⟨W1, hW1⟩ : ∃ X, (W0).setCell ⟨b, 1, none⟩ v1 = X := ⟨_, rfl⟩
  rw [hW1] at r1 ⊢
  replace r1 : W1.heap[b]? = some (.cells #[v0, v1, u2, u3, u4, u5, u6, u7] 32 (0, 0)) := r1
  clear hW1
  have r2 := heap_setCell_same (W1) b 2 _ 32 v2 r1
  obtain ⟨W2, hW2⟩ : ∃ X, (W1).setCell ⟨b, 2, none⟩ v2 = X := ⟨_, rfl⟩
  rw [hW2] at r2 ⊢
  replace r2 : W2.heap[b]? = some (.cells #[v0, v1, v2, u3, u4, u5, u6, u7] 32 (0, 0)) := r2
  clear hW2
  have r3 := heap_setCell_same (W2) b 3 _ 32 v3 r2
  obtain ⟨W3, hW3⟩ : ∃ X, (W2).setCell ⟨b, 3, none⟩ v3 = X := ⟨_, rfl⟩
  rw [hW3] at r3 ⊢
  replace r3 : W3.heap[b]? = some (.cells #[v0, v1, v2, v3, u4, u5, u6, u7] 32 (0, 0)) := r3
  clear hW3
  have r4 := heap_setCell_same (W3) b 4 _ 32 v4 r3
  obtain ⟨W4, hW4⟩ : ∃ X, (W3).setCell ⟨b, 4, none⟩ v4 = X := ⟨_, rfl⟩
  rw [hW4] at r4 ⊢
  replace r4 : W4.heap[b]? = some (.cells #[v0, v1, v2, v3, v4, u5, u6, u7] 32 (0, 0)) := r4
  clear hW4
  have r5 := heap_setCell_same (W4) b 5 _ 32 v5 r4
  obtain ⟨W5, hW5⟩ : ∃ X, (W4).setCell ⟨b, 5, none⟩ v5 = X := ⟨_, rfl⟩
  rw [hW5] at r5 ⊢
  replace r5 : W5.heap[b]? = some (.cells #[v0, v1, v2, v3, v4, v5, u6, u7] 32 (0, 0)) := r5
  clear hW5
  have r6 := heap_setCell_same (W5) b 6 _ 32 v6 r5
  obtain ⟨W6, hW6⟩ : ∃ X, (W5).setCell ⟨b, 6, none⟩ v6 = X := ⟨_, rfl⟩
  rw [hW6] at r6 ⊢
  replace r6 : W6.heap[b]? = some (.cells #[v0, v1, v2, v3, v4, v5, v6, u7] 32 (0, 0)) := r6
  clear hW6
  have r7 := heap_setCell_same (W6) b 7 _ 32 v7 r6
  obtain ⟨W7, hW7⟩ : ∃ X, (W6).setCell ⟨b, 7, none⟩ v7 = X := ⟨_, rfl⟩
  rw [hW7] at r7 ⊢
  replace r7 : W7.heap[b]? = some (.cells #[v0, v1, v2, v3, v4, v5, v6, v7] 32 (0, 0)) := r7
  clear hW7
  exact r7
/-- What Run answers, as far as it counts here. -/
def CntV (S : Su) (l : List Inp) (c d kk : Int) : Prop := (suE S = 0 ∧ kk = 0 ∧ c = ((trk kindsS S l l.length).2 : Int) ∧ c + d = (l.length : Int)) ∨ (suE S ≠ 0 ∧ kk ≠ 0)
def CntG (S : Su) (l : List Inp) (w : World) (e : Ending) (w' : World) : Prop := ∃ a b c d kk : Int, e = .returned (.tuple #[.agg #[.int .i64 a, .int .i64 b, .int .i64 0, .int .i64 0, .int .i64 0, .int .i64 0, .int .i64 c, .int .i64 d], .int .i64 kk]) ∧ CntV S l c d kk ∧ Below w.heap.size w w'
set_option maxRecDepth 100000 in
set_option maxHeartbeats 16000000 in
theorem SeasonCounts_any (S : Su) (l : List Inp) (hs : List Hd) (n : Nat) (A : Option Addr) (cA : Nat) (pA : Option Addr) (pn pc : Nat) (w : World) (hks : KsAt kindsS w) (h0 : 0 < w.heap.size) (hI : InsA w.heap.size A n l hs w) (hcap : n ≤ cA ∧ cA ≤ maxLen) (hnil : A = none → n = 0 ∧ cA = 0)
    (hsp : ∀ q, q ≤ pn → ∃ A2 c2, (∀ W, (Instr.slice 29 (.slice pA pn pc) none (some (.int .i64 (q : Int))) none).run Tryz.prog W = .ok (.slice A2 q c2) W) ∧ (0 < q → A2 = pA))
    (hfact : ∀ W, Below w.heap.size w W → Calls Tryz.prog 18 #[] W fun e w' => e = .returned (.bool true) ∧ Below W.heap.size W w')
    (hrun : ∀ (l2 : List Inp) (hs2 : List Hd) (B : Option Addr) (m2 d2 : Nat) (W : World) (pA2 : Option Addr) (q c3 : Nat), Below w.heap.size w W → InsA W.heap.size B m2 l2 hs2 W → m2 ≤ 10 → (∀ i, i < m2 → (l2[i]!).time ≤ 300) → q ≤ pn → q ≤ 20 → (0 < q → pA2 = pA) → Calls Tryz.prog 11 #[suA S, .slice B m2 d2, .slice pA2 q c3] W (CntG S l2 W)) :
    Calls Tryz.prog 7 #[suA S, .slice A n cA, .slice pA pn pc] w fun e w' => e = .returned (.bool true) ∧ Below w.heap.size w w' := by
  obtain ⟨m, hm⟩ : ∃ m, min n 10 = m := ⟨_, rfl⟩
  obtain ⟨q, hq⟩ : ∃ q, min pn 20 = q := ⟨_, rfl⟩
  have hm10 : m ≤ 10 := by omega
  have hmn : m ≤ n := by omega
  have hmi : min (n : Int) 10 = (m : Int) := by omega
  have hqi : min (pn : Int) 20 = (q : Int) := by omega
  obtain ⟨A2, c2, hsl, hA2⟩ := takeIn (A := A) (c := cA) n m hmn hcap.1 hcap.2 hnil
  obtain ⟨pA2, c3, hsp, hpA2⟩ := hsp q (by omega)
  have HRun0 := Lib.hid (fun (l2 : List Inp) (hs2 : List Hd) (B : Option Addr) (d2 : Nat) (W : World) (h1 : Below w.heap.size w W) (h2 : InsA W.heap.size B m l2 hs2 W) (h3 : ∀ i, i < m → (l2[i]!).time ≤ 300) => hrun l2 hs2 B m d2 W pA2 q c3 h1 h2 hm10 h3 (by omega) (by omega) hpA2)
  have HFact := Lib.hid hfact
  have HCut := Lib.hid (fun (a : Int) (W : World) => cl20 a 0 300 (by decide) (by decide) (by decide) W)
  obtain ⟨V, hV⟩ : ∃ V, w.alloc (suO S) = V := ⟨_, rfl⟩
  have hbV : Below w.heap.size w V := by rw [← hV]; exact (Below.refl _ _).alloc (Nat.le_refl _) _
  have hg0 : SuAt S w.heap.size V := by rw [← hV]; exact heap_alloc_new _ _
  have hzV : V.heap.size = w.heap.size + 1 := by rw [← hV, size_al]
  have HZ := Lib.hid hzV
  have HBV := Lib.hid hbV
  have hIV : InsA V.heap.size A n l hs V := (have h1 := hI.below hbV; ⟨h1.ln, h1.hn, h1.row.more hbV.size, fun i hi => ⟨(h1.tube i hi).1, (h1.tube i hi).2.more hbV.size⟩, h1.bd⟩)
  have HCl := Lib.hid (clone_cut (A2 := A2) (c2 := c2) hIV (Nat.le_refl _) hmn (show m ≤ 12 by omega) hA2 hnil)
  have HI := Lib.hid hIV
  have HKs := Lib.hid (hks.below hbV h0)
  have H0 := Lib.hid h0
  unfold SuAt suL at hg0
  have HSuV := Lib.hid (fun (W : World) (hb : Below V.heap.size V W) => (hb.block w.heap.size (by have := HZ.out; omega)).trans hg0)
  unfold suO at hV
  have HRn := Lib.hid (fun (l2 : List Inp) (hs2 : List Hd) (R B1 : Nat) (B : Option Addr) (d2 : Nat) (W : World) => run_any S l2 hs2 R m m B d2 22 #[.pointer (some ⟨R, 0, none⟩)] (CntJ S l2 R) W kindsS)
  unfold suA setupA at HRun0 HRn ⊢
  clear hks h0 hI hcap hnil hfact hrun hpA2 hA2 hm hq hg0 hzV hbV hIV
  go_enter Tryz.func7, Tryz.ntmps7
  go_upto_region 3 with (go_at_call 19; go_loud (refine HCl.out.mono ?_; rintro e w2 ⟨A3, c4, ps0, rfl, hm0, hb2⟩; have HM2 := Lib.hid hm0; have HB2 := Lib.hid hb2; clear hm0 hb2))
  go_loopw [19] (fun s wr => ∃ (k : Nat) (ps : List (Inp × Hd)), k ≤ m ∧ s = .int .i64 (k : Int) ∧ Hid (CutA l hs V.heap.size A3 m c4 k ps wr) ∧ Hid (Below V.heap.size V wr)) (fun s _ => m - (intOf s).toNat)
  case atStart => exact ⟨0, ps0, by omega, rfl, HM2, HB2⟩
  case round =>
    obtain ⟨k, ps, hk, rfl, HM, HB⟩ := hrel
    obtain ⟨wo, hwo⟩ : ∃ wo : World, wo = wr := ⟨_, rfl⟩
    subst hwo
    by_cases hlt : k < m
    · have l0 : (0 : Int) ≤ (k : Int) := by omega
      have l1 : (k : Int) < (m : Int) := by omega
      have hkw : IntKind.i64.wrap ((k : Int) + 1) = (k : Int) + 1 := IntWalk.i64_in _ (by omega)
      obtain ⟨b, hAb, hbb, hbl, hfz, hr⟩ := HM.out.at (by omega)
      subst hAb
      have hr := hr k hlt
      rw [HM.out.todo k (Nat.le_refl _) hlt] at hr
      have q1 : wo.cell? ⟨b, k * 9 + 1, none⟩ = some (.int .i64 (l[k]!).time) := hr 1 _ rfl
      have f1 : wo.frozen? ⟨b, k * 9 + 1, none⟩ = false := hfz _
      have HNx := Lib.hid (HM.out.next hlt)
      have HBx := Lib.hid (HB.out.setCell (p := ⟨b, k * 9 + 1, none⟩) hbb (.int .i64 (cutP (l[k]!).time 0 300)))
      obtain ⟨tm, htm⟩ : ∃ z, (l[k]!).time = z := ⟨_, rfl⟩
      rw [htm] at q1 HNx HBx
      clear hr hfz htm hbl hbb
      go_wp2_with (go_at_call 20; go_loud (refine (HCut.out _ _).mono ?_; rintro e v ⟨rfl, hv⟩; obtain rfl := hv.symm))
      go_roundw
      case rel => exact ⟨k + 1, _, by omega, by go_num, HNx, HBx⟩
      case measure => simp [intOf]; omega
    · obtain rfl : k = m := by omega
      have l1 : ¬ (k : Int) < (k : Int) := by omega
      go_upto_region 8 with (fail)
      obtain ⟨w4, hw4⟩ : ∃ W, wo.alloc (.cells #[.int .i64 0] 3) = W := ⟨_, rfl⟩
      rw [hw4]
      have hb4 : Below wo.heap.size wo w4 := by rw [← hw4]; exact (Below.refl _ _).alloc (Nat.le_refl _) _
      have hr4 : w4.heap[wo.heap.size]? = some (.cells #[.int .i64 0] 3 (0, 0)) := by rw [← hw4]; exact heap_alloc_new _ _
      have hz4 : w4.heap.size = wo.heap.size + 1 := by rw [← hw4, size_al]
      have hVo := HB.out.size
      obtain ⟨l2, hl2⟩ : ∃ z, ((List.range k).map fun i => cuI l[i]!) = z := ⟨_, rfl⟩
      obtain ⟨hs2, hhs2⟩ : ∃ z, ((List.range k).map fun i => hs[i]!) = z := ⟨_, rfl⟩
      have hI2 := HM.out.ins (HI.out.below HB.out) hVo hmn
      rw [hl2, hhs2] at hI2
      have HLn : Hid (l2.length = k) := Lib.hid (by rw [← hl2]; simp)
      have HTm : Hid (∀ i, i < k → (l2[i]!).time ≤ 300) := Lib.hid (fun i hi => by rw [← hl2]; exact cuts_le k l i hi)
      have HI2 := Lib.hid (hI2.below hb4)
      obtain ⟨hcn, hck, hcm⟩ := HM.out.cap
      have HB4 := Lib.hid (HB.out.trans (hb4.mono hVo))
      have HRow0 := Lib.hid (fun (W : World) (hb : Below w4.heap.size w4 W) => (hb.block wo.heap.size (by omega)).trans hr4)
      have HRun1 := Lib.hid (fun (W : World) (hb : Below w4.heap.size w4 W) => HRn.out l2 hs2 wo.heap.size 0 A3 c4 W (HKs.out.below (HB4.out.trans (hb.mono HB4.out.size)) (by have := H0.out; have := HBV.out.size; omega)) kindsS_ok (by have := H0.out; have := HBV.out.size; omega) (by have := hb.size; omega) (by omega) (HI2.out.below (hb.mono (by omega))) ⟨hck, hcm⟩ hcn
        (fun k c F W1 W2 hJ hb2 => ⟨(hb2.block _ (Array.getElem?_eq_some_iff.1 hJ.1).1).trans hJ.1, hJ.2⟩) (fun F W1 hb2 hF => ⟨((hb.trans (hb2.mono hb.size)).block wo.heap.size (by omega)).trans hr4, fun hf => by have := hF _ hf; have := hb.size; omega, rfl⟩) ⟨_, _, rfl, by kernel_rfl, rfl⟩ (run22c S l2 hs2 _ _ _ (by omega) (by have := hb.size; omega)))
      have HZ4 : Hid (w4.heap.size = wo.heap.size + 1 ∧ V.heap.size ≤ wo.heap.size) := Lib.hid ⟨hz4, hVo⟩
      clear hl2 hhs2 hI2 hcn hck hcm hw4 hb4 hr4 hz4 hVo HCl HRn
      go_upto_region 10 with (first
        | (first | (refine wpList_load_row rfl 27 _ rfl w.heap.size rfl 27 _ (0, 0) _ HS5.out Tryz.underlying27 rfl (by kernel_rfl) ?_) | (refine wpList_load_row_w 27 _ rfl w.heap.size rfl rfl 27 _ (0, 0) _ HS5.out Tryz.underlying27 rfl (by kernel_rfl) ?_))
        | (go_at_call 18; go_loud (refine (HFact.out w4 (HBV.out.trans (HB4.out.mono HBV.out.size))).mono ?_; rintro e w5 ⟨rfl, hb5⟩; have HB5 := Lib.hid hb5; have HR5 := Lib.hid (HRun1.out w5 hb5); have HS5 := Lib.hid (HSuV.out w5 (HB4.out.trans (hb5.mono HB4.out.size))); clear hb5))
        | (go_at_call 21; go_loud (refine HR5.out.mono ?_; rintro e w6 ⟨rfl, hb6, hJ6⟩; have HB6 := Lib.hid hb6; have HJ6 := Lib.hid hJ6; clear hb6 hJ6)))
      have hsz : V.heap.size ≤ wo.heap.size ∧ w4.heap.size = wo.heap.size + 1 ∧ w4.heap.size ≤ w5.heap.size := ⟨HZ4.out.2, HZ4.out.1, HB5.out.size⟩
      have hV6 : Below V.heap.size V w6.drew := ((HB4.out.trans (HB5.out.mono (by omega))).trans (HB6.out.mono (by omega))).drew
      have HB6d : Hid (Below w.heap.size w w6.drew) := Lib.hid (HBV.out.trans (hV6.mono HBV.out.size))
      have HSu := Lib.hid (fun (W : World) (hb : Below w6.drew.heap.size w6.drew W) => HSuV.out W (hV6.trans (hb.mono hV6.size)))
      have HRun := Lib.hid (fun (W : World) (hb : Below w6.drew.heap.size w6.drew W) => (by
        have h1 := ((HI2.out.below (HB5.out.mono (by omega))).below HB6.out).below (show Below wo.heap.size w6 W from (Below.drew (Below.refl wo.heap.size w6)).trans (hb.mono (show wo.heap.size ≤ w6.heap.size by have := HB6.out.size; omega)))
        have h2 : wo.heap.size ≤ W.heap.size := by have h := hb.size; have := HB6.out.size; exact Nat.le_trans (show wo.heap.size ≤ w6.heap.size by omega) h
        exact HRun0.out l2 hs2 A3 c4 W (HB6d.out.trans (hb.mono HB6d.out.size)) ⟨h1.ln, h1.hn, h1.row.more h2, fun i hi => ⟨(h1.tube i hi).1, (h1.tube i hi).2.more h2⟩, h1.bd⟩ HTm.out))
      clear hsz hV6
      go_cut [9, 10] from 11 to 70 (fun s7 s8 wx => ∃ (R : Nat) (a b c d kk : Int), s7 = .pointer (some ⟨R, 0, none⟩) ∧ s8 = .int .i64 kk ∧ Hid (wx.heap[R]? = some (.cells #[.int .i64 a, .int .i64 b, .int .i64 0, .int .i64 0, .int .i64 0, .int .i64 0, .int .i64 c, .int .i64 d] 32 (0, 0))) ∧ Hid (CntV S l2 c d kk) ∧ Hid (Below w.heap.size w wx) ∧ Hid (Below w6.drew.heap.size w6.drew wx))
      case first =>
        refine wp_region_held_drew (S := (fun W => W.heap[w.heap.size]? = some (.cells #[.int .i64 S.lat, .int .i64 S.vert, .int .i64 (S.g 0), .int .i64 (S.g 1), .int .i64 (S.g 2), .int .i64 (S.g 3), .int .i64 (S.g 4), .int .i64 (S.g 5), .int .i64 (S.g 6), .int .i64 (S.g 7), .int .i64 (S.g 8), .int .i64 (S.g 9), .int .i64 (S.g 10), .int .i64 (S.g 11), .int .i64 (S.g 12), .int .i64 (S.g 13), .int .i64 (S.g 14), .int .i64 (S.g 15)] 27 (0, 0)))) (by kernel_rfl) (HSu.out _ (Below.refl _ _)) (fun hHeld => ?_)
        refine wpAnyH_take (i := 0) (oi := ⟨some 43, _, _, _, _, _⟩) (v := ?r1u) rfl (by kernel_rfl) (by kernel_rfl) (by kernel_rfl) (fun _ _ _ h => h) (Or.inl ⟨by rfl, ?r1p⟩) hHeld ?r1q
        case r1p => (intro W hSw; refine run_exec_row (P := Tryz.prog) 27 (.tmp 3) ?_ w.heap.size ?_ 27 _ (0, 0) _ hSw Tryz.underlying27 rfl (by kernel_rfl) <;> rfl)
        try simp only [Act.put, List.setIfInBounds_toArray, List.set_cons_zero, List.set_cons_succ]
        refine wpAnyH_take (i := 1) (oi := ⟨some 44, _, _, _, _, _⟩) (v := ?r2u) rfl (by kernel_rfl) (by kernel_rfl) (by kernel_rfl) (fun _ _ _ h => h) (Or.inl ⟨by rfl, ?r2p⟩) hHeld ?r2q
        case r2p => (intro W hSw; (try dsimp only at hSw); (try obtain s1 := hSw); go_simp; try with_reducible rfl)
        try simp only [Act.put, List.setIfInBounds_toArray, List.set_cons_zero, List.set_cons_succ]
        refine wpAnyH_take (i := 2) (oi := ⟨some 45, _, _, _, _, _⟩) (v := ?r3u) rfl (by kernel_rfl) (by kernel_rfl) (by kernel_rfl) (fun _ _ _ h => h) (Or.inl ⟨by rfl, ?r3p⟩) hHeld ?r3q
        case r3p => (intro W hSw; (try dsimp only at hSw); (try obtain s1 := hSw); go_simp; try with_reducible rfl)
        try simp only [Act.put, List.setIfInBounds_toArray, List.set_cons_zero, List.set_cons_succ]
        refine wpAnyH_take (i := 3) (oi := ⟨some 46, _, _, _, _, _⟩) (v := ?r4u) rfl (by kernel_rfl) (by kernel_rfl) (by kernel_rfl) (fun _ _ _ h => h) (Or.inl ⟨by rfl, ?r4p⟩) hHeld ?r4q
        case r4p => (intro W hSw; (try dsimp only at hSw); (try obtain s1 := hSw); go_simp; try with_reducible rfl)
        try simp only [Act.put, List.setIfInBounds_toArray, List.set_cons_zero, List.set_cons_succ]
        refine wpAnyH_take (i := 4) (oi := ⟨some 47, _, _, _, _, _⟩) (v := ?r5u) rfl (by kernel_rfl) (by kernel_rfl) (by kernel_rfl) (fun _ _ _ h => h) (Or.inl ⟨by rfl, ?r5p⟩) hHeld ?r5q
        case r5p => (intro W hSw; (try dsimp only at hSw); (try obtain s1 := hSw); go_simp; try with_reducible rfl)
        try simp only [Act.put, List.setIfInBounds_toArray, List.set_cons_zero, List.set_cons_succ]
        refine wpAnyH_take (i := 5) (oi := ⟨some 48, _, _, _, _, _⟩) (v := ?r6u) rfl (by kernel_rfl) (by kernel_rfl) (by kernel_rfl) (fun _ _ _ h => h) (Or.inl ⟨by rfl, ?r6p⟩) hHeld ?r6q
        case r6p => (intro W hSw; (try dsimp only at hSw); (try obtain s1 := hSw); go_simp; try with_reducible rfl)
        try simp only [Act.put, List.setIfInBounds_toArray, List.set_cons_zero, List.set_cons_succ]
        refine wpAnyH_take (i := 6) (oi := ⟨some 49, _, _, _, _, _⟩) (v := ?r7u) rfl (by kernel_rfl) (by kernel_rfl) (by kernel_rfl) (fun _ _ _ h => h) (Or.inl ⟨by rfl, ?r7p⟩) hHeld ?r7q
        case r7p => (intro W hSw; (try dsimp only at hSw); (try obtain s1 := hSw); go_simp; try with_reducible rfl)
        try simp only [Act.put, List.setIfInBounds_toArray, List.set_cons_zero, List.set_cons_succ]
        refine wpAnyH_ready (rs := [7, 11]) (by kernel_rfl) (by simp) ?_
        refine (AllReadyH.cons (o := ⟨some 50, _, _, _, _, _⟩) rfl (fun K hK => ?_) (AllReadyH.cons (o := ⟨some 9, _, _, _, _, _⟩) rfl (fun K hK => ?_) AllReadyH.nil))
        · go_simp
          go_at_call 11
          (with_reducible refine (HRun.out _ (Below.refl w6.drew.heap.size w6.drew)).mono ?_)
          rintro e wr7 ⟨a, b, c, d, kk, rfl, hv, hb⟩
          have HV := Lib.hid hv
          have HBwr7 := Lib.hid (HB6d.out.trans (hb.mono HB6d.out.size))
          have HTwr7 := Lib.hid ((Below.refl w6.drew.heap.size w6.drew).trans (hb.mono (Below.refl w6.drew.heap.size w6.drew).size))
          clear hv hb
          refine hK.out _ _ (HSu.out _ HTwr7.out) (fun hHeld => ?_)
          clear hK K
          try simp only [Act.put, List.setIfInBounds_toArray, List.set_cons_zero, List.set_cons_succ]
          refine wpAnyH_take (i := 8) (oi := ⟨some 42, _, _, _, _, _⟩) (v := ?r8u) rfl (by kernel_rfl) (by kernel_rfl) (by kernel_rfl) (fun _ _ _ h => h) (Or.inl ⟨by rfl, ?r8p⟩) hHeld ?r8q
          case r8p => (intro W hSw; (try dsimp only at hSw); (try obtain s1 := hSw); go_simp; try with_reducible rfl)
          try simp only [Act.put, List.setIfInBounds_toArray, List.set_cons_zero, List.set_cons_succ]
          refine wpAnyH_take (i := 9) (oi := ⟨some 51, _, _, _, _, _⟩) (v := ?r9u) rfl (by kernel_rfl) (by kernel_rfl) (by kernel_rfl) (fun _ _ _ h => h) (Or.inl ⟨by rfl, ?r9p⟩) hHeld ?r9q
          case r9p => (intro W hSw; (try dsimp only at hSw); (try obtain s1 := hSw); go_simp; try with_reducible rfl)
          try simp only [Act.put, List.setIfInBounds_toArray, List.set_cons_zero, List.set_cons_succ]
          refine wpAnyH_take (i := 10) (oi := ⟨some 52, _, _, _, _, _⟩) (v := ?r10u) rfl (by kernel_rfl) (by kernel_rfl) (by kernel_rfl) (fun _ _ _ h => h) (Or.inl ⟨by rfl, ?r10p⟩) hHeld ?r10q
          case r10p => (intro W hSw; (try dsimp only at hSw); (try obtain s1 := hSw); go_simp; try with_reducible rfl)
          try simp only [Act.put, List.setIfInBounds_toArray, List.set_cons_zero, List.set_cons_succ]
          refine wpAnyH_ready (rs := [11]) (by kernel_rfl) (by simp) ?_
          refine (AllReadyH.cons (o := ⟨some 9, _, _, _, _, _⟩) rfl (fun K hK => ?_) AllReadyH.nil)
          go_simp
          obtain ⟨wr11, hwr11⟩ : ∃ X, wr7.alloc (.cells #[.int .i64 0, .int .i64 0, .int .i64 0, .int .i64 0, .int .i64 0, .int .i64 0, .int .i64 0, .int .i64 0] 32) = X := ⟨_, rfl⟩
          rw [hwr11]
          have HRow : Hid (wr11.heap[wr7.heap.size]? = some (.cells #[.int .i64 0, .int .i64 0, .int .i64 0, .int .i64 0, .int .i64 0, .int .i64 0, .int .i64 0, .int .i64 0] 32 (0, 0))) := Lib.hid (by rw [← hwr11]; exact heap_alloc_new wr7 _)
          have hb : Below wr7.heap.size wr7 wr11 := by rw [← hwr11]; exact (Below.refl _ wr7).alloc (Nat.le_refl _) _
          have HBwr11 := Lib.hid (HBwr7.out.trans (hb.mono HBwr7.out.size))
          have HTwr11 := Lib.hid (HTwr7.out.trans (hb.mono HTwr7.out.size))
          have HRl : Hid (wr7.heap.size < wr11.heap.size) := Lib.hid (by rw [← hwr11]; have := size_al wr7 (.cells #[.int .i64 0, .int .i64 0, .int .i64 0, .int .i64 0, .int .i64 0, .int .i64 0, .int .i64 0, .int .i64 0] 32); exact Nat.lt_of_lt_of_eq (Nat.lt_succ_self _) this.symm)
          have HRg : Hid (w6.drew.heap.size ≤ wr7.heap.size) := Lib.hid (HTwr7.out.size)
          obtain ⟨R, hR⟩ : ∃ R, wr7.heap.size = R := ⟨_, rfl⟩
          replace HRow : Hid (wr11.heap[wr7.heap.size]? = some (.cells #[.int .i64 0, .int .i64 0, .int .i64 0, .int .i64 0, .int .i64 0, .int .i64 0, .int .i64 0, .int .i64 0] 32 (0, 0))) := HRow
          replace HRl : Hid (wr7.heap.size < wr11.heap.size) := HRl
          replace HRg : Hid (w6.drew.heap.size ≤ wr7.heap.size) := HRg
          rw [hR] at HRow HRl HRg ⊢
          clear hb hwr11
          refine hK.out _ _ (HSu.out _ HTwr11.out) (fun hHeld => ?_)
          clear hK K
          try simp only [Act.put, List.setIfInBounds_toArray, List.set_cons_zero, List.set_cons_succ]
          refine wpAnyH_ready (rs := [12]) (by kernel_rfl) (by simp) ?_
          refine (AllReadyH.cons (o := ⟨none, _, _, _, _, _⟩) rfl (fun K hK => ?_) AllReadyH.nil)
          have c0 : wr11.cell? ⟨R, 0, none⟩ = some (.int .i64 0) := cell_of_row wr11 _ 0 _ _ _ HRow.out
          have f0 : wr11.frozen? ⟨R, 0, none⟩ = false := frozen_of_row wr11 _ 0 _ _ HRow.out
          have c1 : wr11.cell? ⟨R, 1, none⟩ = some (.int .i64 0) := cell_of_row wr11 _ 1 _ _ _ HRow.out
          have f1 : wr11.frozen? ⟨R, 1, none⟩ = false := frozen_of_row wr11 _ 1 _ _ HRow.out
          have c2 : wr11.cell? ⟨R, 2, none⟩ = some (.int .i64 0) := cell_of_row wr11 _ 2 _ _ _ HRow.out
          have f2 : wr11.frozen? ⟨R, 2, none⟩ = false := frozen_of_row wr11 _ 2 _ _ HRow.out
          have c3 : wr11.cell? ⟨R, 3, none⟩ = some (.int .i64 0) := cell_of_row wr11 _ 3 _ _ _ HRow.out
          have f3 : wr11.frozen? ⟨R, 3, none⟩ = false := frozen_of_row wr11 _ 3 _ _ HRow.out
          have c4 : wr11.cell? ⟨R, 4, none⟩ = some (.int .i64 0) := cell_of_row wr11 _ 4 _ _ _ HRow.out
          have f4 : wr11.frozen? ⟨R, 4, none⟩ = false := frozen_of_row wr11 _ 4 _ _ HRow.out
          have c5 : wr11.cell? ⟨R, 5, none⟩ = some (.int .i64 0) := cell_of_row wr11 _ 5 _ _ _ HRow.out
          have f5 : wr11.frozen? ⟨R, 5, none⟩ = false := frozen_of_row wr11 _ 5 _ _ HRow.out
          have c6 : wr11.cell? ⟨R, 6, none⟩ = some (.int .i64 0) := cell_of_row wr11 _ 6 _ _ _ HRow.out
          have f6 : wr11.frozen? ⟨R, 6, none⟩ = false := frozen_of_row wr11 _ 6 _ _ HRow.out
          have c7 : wr11.cell? ⟨R, 7, none⟩ = some (.int .i64 0) := cell_of_row wr11 _ 7 _ _ _ HRow.out
          have f7 : wr11.frozen? ⟨R, 7, none⟩ = false := frozen_of_row wr11 _ 7 _ _ HRow.out
          go_simp
          obtain ⟨wr12, hwr12⟩ : ∃ X, ((((((((wr11.setCell ⟨R, 0, none⟩ (.int .i64 a)).setCell ⟨R, 1, none⟩ (.int .i64 b)).setCell ⟨R, 2, none⟩ (.int .i64 0)).setCell ⟨R, 3, none⟩ (.int .i64 0)).setCell ⟨R, 4, none⟩ (.int .i64 0)).setCell ⟨R, 5, none⟩ (.int .i64 0)).setCell ⟨R, 6, none⟩ (.int .i64 c)).setCell ⟨R, 7, none⟩ (.int .i64 d)) = X := ⟨_, rfl⟩
          rw [hwr12]
          have hrow2 := set8c HRow.out (.int .i64 a) (.int .i64 b) (.int .i64 0) (.int .i64 0) (.int .i64 0) (.int .i64 0) (.int .i64 c) (.int .i64 d)
          have hs : Below R wr11 wr12 := by rw [← hwr12]; exact ((((((((Below.refl R wr11).setCell (Nat.le_refl _) _).setCell (Nat.le_refl _) _).setCell (Nat.le_refl _) _).setCell (Nat.le_refl _) _).setCell (Nat.le_refl _) _).setCell (Nat.le_refl _) _).setCell (Nat.le_refl _) _).setCell (Nat.le_refl _) _
          rw [hwr12] at hrow2
          have HRow2 := Lib.hid hrow2
          have HBwr12 := Lib.hid (HBwr11.out.trans (hs.mono (Nat.le_trans HB6d.out.size HRg.out)))
          have HTwr12 := Lib.hid (HTwr11.out.trans (hs.mono HRg.out))
          clear hs hwr12 hrow2 c0 f0 c1 f1 c2 f2 c3 f3 c4 f4 c5 f5 c6 f6 c7 f7
          refine hK.out _ _ (HSu.out _ HTwr12.out) (fun hHeld => ?_)
          clear hK K
          try simp only [Act.put, List.setIfInBounds_toArray, List.set_cons_zero, List.set_cons_succ]
          refine wpAnyH_take (i := 13) (oi := ⟨some 10, _, _, _, _, _⟩) (v := ?r11u) rfl (by kernel_rfl) (by kernel_rfl) (by kernel_rfl) (fun _ _ _ h => h) (Or.inl ⟨by rfl, ?r11p⟩) hHeld ?r11q
          case r11p => (intro W hSw; (try dsimp only at hSw); (try obtain s1 := hSw); go_simp; try with_reducible rfl)
          try simp only [Act.put, List.setIfInBounds_toArray, List.set_cons_zero, List.set_cons_succ]
          refine wpAnyH_done (by kernel_rfl) ?_ _
          go_wp2_with fail
          go_meet
          case rel => exact ⟨R, a, b, c, d, kk, rfl, rfl, HRow2, HV, HBwr12, HTwr12⟩
        · go_simp
          obtain ⟨wr11, hwr11⟩ : ∃ X, (w6.alloc (.cells #[.int .i64 0, .int .i64 0, .int .i64 0, .int .i64 0, .int .i64 0, .int .i64 0, .int .i64 0, .int .i64 0] 32)).drew = X := ⟨_, rfl⟩
          rw [hwr11]
          have HRow : Hid (wr11.heap[w6.drew.heap.size]? = some (.cells #[.int .i64 0, .int .i64 0, .int .i64 0, .int .i64 0, .int .i64 0, .int .i64 0, .int .i64 0, .int .i64 0] 32 (0, 0))) := Lib.hid (by rw [← hwr11]; exact heap_alloc_new w6 _)
          have hb : Below w6.drew.heap.size w6.drew wr11 := by rw [← hwr11]; exact (Below.refl _ w6.drew).alloc (Nat.le_refl _) _
          have HBwr11 := Lib.hid (HB6d.out.trans (hb.mono HB6d.out.size))
          have HTwr11 := Lib.hid ((Below.refl w6.drew.heap.size w6.drew).trans (hb.mono (Below.refl w6.drew.heap.size w6.drew).size))
          have HRl : Hid (w6.drew.heap.size < wr11.heap.size) := Lib.hid (by rw [← hwr11]; have := size_al w6 (.cells #[.int .i64 0, .int .i64 0, .int .i64 0, .int .i64 0, .int .i64 0, .int .i64 0, .int .i64 0, .int .i64 0] 32); exact Nat.lt_of_lt_of_eq (Nat.lt_succ_self _) this.symm)
          have HRg : Hid (w6.drew.heap.size ≤ w6.drew.heap.size) := Lib.hid ((Below.refl w6.drew.heap.size w6.drew).size)
          obtain ⟨R, hR⟩ : ∃ R, w6.heap.size = R := ⟨_, rfl⟩
          replace HRow : Hid (wr11.heap[w6.heap.size]? = some (.cells #[.int .i64 0, .int .i64 0, .int .i64 0, .int .i64 0, .int .i64 0, .int .i64 0, .int .i64 0, .int .i64 0] 32 (0, 0))) := HRow
          replace HRl : Hid (w6.heap.size < wr11.heap.size) := HRl
          replace HRg : Hid (w6.drew.heap.size ≤ w6.heap.size) := HRg
          rw [hR] at HRow HRl HRg ⊢
          clear hb hwr11
          refine hK.out _ _ (HSu.out _ HTwr11.out) (fun hHeld => ?_)
          clear hK K
          try simp only [Act.put, List.setIfInBounds_toArray, List.set_cons_zero, List.set_cons_succ]
          refine wpAnyH_ready (rs := [7]) (by kernel_rfl) (by simp) ?_
          refine (AllReadyH.cons (o := ⟨some 50, _, _, _, _, _⟩) rfl (fun K hK => ?_) AllReadyH.nil)
          go_simp
          go_at_call 11
          (with_reducible refine (HRun.out _ HTwr11.out).mono ?_)
          rintro e wr7 ⟨a, b, c, d, kk, rfl, hv, hb⟩
          have HV := Lib.hid hv
          have HBwr7 := Lib.hid (HBwr11.out.trans (hb.mono HBwr11.out.size))
          have HTwr7 := Lib.hid (HTwr11.out.trans (hb.mono HTwr11.out.size))
          have hrow := HRow.out
          clear HRow
          have HRow := Lib.hid ((hb.block _ (by have := HRl.out; omega)).trans hrow)
          clear hrow
          clear hv hb
          refine hK.out _ _ (HSu.out _ HTwr7.out) (fun hHeld => ?_)
          clear hK K
          try simp only [Act.put, List.setIfInBounds_toArray, List.set_cons_zero, List.set_cons_succ]
          refine wpAnyH_take (i := 8) (oi := ⟨some 42, _, _, _, _, _⟩) (v := ?r12u) rfl (by kernel_rfl) (by kernel_rfl) (by kernel_rfl) (fun _ _ _ h => h) (Or.inl ⟨by rfl, ?r12p⟩) hHeld ?r12q
          case r12p => (intro W hSw; (try dsimp only at hSw); (try obtain s1 := hSw); go_simp; try with_reducible rfl)
          try simp only [Act.put, List.setIfInBounds_toArray, List.set_cons_zero, List.set_cons_succ]
          refine wpAnyH_take (i := 9) (oi := ⟨some 51, _, _, _, _, _⟩) (v := ?r13u) rfl (by kernel_rfl) (by kernel_rfl) (by kernel_rfl) (fun _ _ _ h => h) (Or.inl ⟨by rfl, ?r13p⟩) hHeld ?r13q
          case r13p => (intro W hSw; (try dsimp only at hSw); (try obtain s1 := hSw); go_simp; try with_reducible rfl)
          try simp only [Act.put, List.setIfInBounds_toArray, List.set_cons_zero, List.set_cons_succ]
          refine wpAnyH_take (i := 10) (oi := ⟨some 52, _, _, _, _, _⟩) (v := ?r14u) rfl (by kernel_rfl) (by kernel_rfl) (by kernel_rfl) (fun _ _ _ h => h) (Or.inl ⟨by rfl, ?r14p⟩) hHeld ?r14q
          case r14p => (intro W hSw; (try dsimp only at hSw); (try obtain s1 := hSw); go_simp; try with_reducible rfl)
          try simp only [Act.put, List.setIfInBounds_toArray, List.set_cons_zero, List.set_cons_succ]
          refine wpAnyH_ready (rs := [12]) (by kernel_rfl) (by simp) ?_
          refine (AllReadyH.cons (o := ⟨none, _, _, _, _, _⟩) rfl (fun K hK => ?_) AllReadyH.nil)
          have c0 : wr7.cell? ⟨R, 0, none⟩ = some (.int .i64 0) := cell_of_row wr7 _ 0 _ _ _ HRow.out
          have f0 : wr7.frozen? ⟨R, 0, none⟩ = false := frozen_of_row wr7 _ 0 _ _ HRow.out
          have c1 : wr7.cell? ⟨R, 1, none⟩ = some (.int .i64 0) := cell_of_row wr7 _ 1 _ _ _ HRow.out
          have f1 : wr7.frozen? ⟨R, 1, none⟩ = false := frozen_of_row wr7 _ 1 _ _ HRow.out
          have c2 : wr7.cell? ⟨R, 2, none⟩ = some (.int .i64 0) := cell_of_row wr7 _ 2 _ _ _ HRow.out
          have f2 : wr7.frozen? ⟨R, 2, none⟩ = false := frozen_of_row wr7 _ 2 _ _ HRow.out
          have c3 : wr7.cell? ⟨R, 3, none⟩ = some (.int .i64 0) := cell_of_row wr7 _ 3 _ _ _ HRow.out
          have f3 : wr7.frozen? ⟨R, 3, none⟩ = false := frozen_of_row wr7 _ 3 _ _ HRow.out
          have c4 : wr7.cell? ⟨R, 4, none⟩ = some (.int .i64 0) := cell_of_row wr7 _ 4 _ _ _ HRow.out
          have f4 : wr7.frozen? ⟨R, 4, none⟩ = false := frozen_of_row wr7 _ 4 _ _ HRow.out
          have c5 : wr7.cell? ⟨R, 5, none⟩ = some (.int .i64 0) := cell_of_row wr7 _ 5 _ _ _ HRow.out
          have f5 : wr7.frozen? ⟨R, 5, none⟩ = false := frozen_of_row wr7 _ 5 _ _ HRow.out
          have c6 : wr7.cell? ⟨R, 6, none⟩ = some (.int .i64 0) := cell_of_row wr7 _ 6 _ _ _ HRow.out
          have f6 : wr7.frozen? ⟨R, 6, none⟩ = false := frozen_of_row wr7 _ 6 _ _ HRow.out
          have c7 : wr7.cell? ⟨R, 7, none⟩ = some (.int .i64 0) := cell_of_row wr7 _ 7 _ _ _ HRow.out
          have f7 : wr7.frozen? ⟨R, 7, none⟩ = false := frozen_of_row wr7 _ 7 _ _ HRow.out
          go_simp
          obtain ⟨wr12, hwr12⟩ : ∃ X, ((((((((wr7.setCell ⟨R, 0, none⟩ (.int .i64 a)).setCell ⟨R, 1, none⟩ (.int .i64 b)).setCell ⟨R, 2, none⟩ (.int .i64 0)).setCell ⟨R, 3, none⟩ (.int .i64 0)).setCell ⟨R, 4, none⟩ (.int .i64 0)).setCell ⟨R, 5, none⟩ (.int .i64 0)).setCell ⟨R, 6, none⟩ (.int .i64 c)).setCell ⟨R, 7, none⟩ (.int .i64 d)) = X := ⟨_, rfl⟩
          rw [hwr12]
          have hrow2 := set8c HRow.out (.int .i64 a) (.int .i64 b) (.int .i64 0) (.int .i64 0) (.int .i64 0) (.int .i64 0) (.int .i64 c) (.int .i64 d)
          have hs : Below R wr7 wr12 := by rw [← hwr12]; exact ((((((((Below.refl R wr7).setCell (Nat.le_refl _) _).setCell (Nat.le_refl _) _).setCell (Nat.le_refl _) _).setCell (Nat.le_refl _) _).setCell (Nat.le_refl _) _).setCell (Nat.le_refl _) _).setCell (Nat.le_refl _) _).setCell (Nat.le_refl _) _
          rw [hwr12] at hrow2
          have HRow2 := Lib.hid hrow2
          have HBwr12 := Lib.hid (HBwr7.out.trans (hs.mono (Nat.le_trans HB6d.out.size HRg.out)))
          have HTwr12 := Lib.hid (HTwr7.out.trans (hs.mono HRg.out))
          clear hs hwr12 hrow2 c0 f0 c1 f1 c2 f2 c3 f3 c4 f4 c5 f5 c6 f6 c7 f7
          refine hK.out _ _ (HSu.out _ HTwr12.out) (fun hHeld => ?_)
          clear hK K
          try simp only [Act.put, List.setIfInBounds_toArray, List.set_cons_zero, List.set_cons_succ]
          refine wpAnyH_take (i := 13) (oi := ⟨some 10, _, _, _, _, _⟩) (v := ?r15u) rfl (by kernel_rfl) (by kernel_rfl) (by kernel_rfl) (fun _ _ _ h => h) (Or.inl ⟨by rfl, ?r15p⟩) hHeld ?r15q
          case r15p => (intro W hSw; (try dsimp only at hSw); (try obtain s1 := hSw); go_simp; try with_reducible rfl)
          try simp only [Act.put, List.setIfInBounds_toArray, List.set_cons_zero, List.set_cons_succ]
          refine wpAnyH_done (by kernel_rfl) ?_ _
          go_wp2_with fail
          go_meet
          case rel => exact ⟨R, a, b, c, d, kk, rfl, rfl, HRow2, HV, HBwr12, HTwr12⟩
      case rest =>
        obtain ⟨R, a, b, c, d, kk, rfl, rfl, HRow, HV, HBc, HTc⟩ := hcut
        have r0 : wc.cell? ⟨R, 0, none⟩ = some (.int .i64 a) := cell_of_row wc _ 0 _ _ _ HRow.out
        have r1 : wc.cell? ⟨R, 1, none⟩ = some (.int .i64 b) := cell_of_row wc _ 1 _ _ _ HRow.out
        have r2 : wc.cell? ⟨R, 2, none⟩ = some (.int .i64 0) := cell_of_row wc _ 2 _ _ _ HRow.out
        have r3 : wc.cell? ⟨R, 3, none⟩ = some (.int .i64 0) := cell_of_row wc _ 3 _ _ _ HRow.out
        have r4 : wc.cell? ⟨R, 4, none⟩ = some (.int .i64 0) := cell_of_row wc _ 4 _ _ _ HRow.out
        have r5 : wc.cell? ⟨R, 5, none⟩ = some (.int .i64 0) := cell_of_row wc _ 5 _ _ _ HRow.out
        have r6 : wc.cell? ⟨R, 6, none⟩ = some (.int .i64 c) := cell_of_row wc _ 6 _ _ _ HRow.out
        have r7 : wc.cell? ⟨R, 7, none⟩ = some (.int .i64 d) := cell_of_row wc _ 7 _ _ _ HRow.out
        rcases HV.out with ⟨hE, rfl, h1, h2⟩ | ⟨hE, hkk⟩
        · obtain ⟨cc, F, _, hj, _, _⟩ := HJ6.out hE
          have hcnt : c = ((trk kindsS S l2 k).2 : Int) := by rw [h1, HLn.out]
          have c8 : wc.cell? ⟨wo.heap.size, 0, none⟩ = some (.int .i64 c) := by
            rw [hcnt]
            exact cell_of_row wc _ 0 _ _ _ ((HTc.out.block _ (Array.getElem?_eq_some_iff.1 hj).1).trans hj)
          have hw : IntKind.i64.wrap (c + d) = c + d := IntWalk.i64_in _ (by rw [h2, HLn.out]; omega)
          have he : ((c + d : Int) == (k : Int)) = true := by rw [h2, HLn.out]; simp
          clear h1 h2 hj hcnt hE
          go_wp2_with fail
          go_ret
          exact ⟨rfl, HBc.out⟩
        · have e1 : (kk != 0) = true := by simpa using hkk
          clear hE hkk
          go_wp2_with fail
          go_ret
          exact ⟨rfl, HBc.out⟩
end Go.Proofs.YtaebebpldkciiaaGreatDoor
