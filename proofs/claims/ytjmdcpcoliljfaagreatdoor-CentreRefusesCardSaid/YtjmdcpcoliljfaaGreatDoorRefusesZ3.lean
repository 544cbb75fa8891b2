/- CentreRefuses returns true for every input. -/
import Derived.Test.YtjmdcpcoliljfaaGreatDoorRefusesZ2
import Derived.Test.YtjmdcpcoliljfaaGreatDoorG20
/- CentreRefuses: the walk. -/
namespace Go.Proofs.YtjmdcpcoliljfaaGreatDoor
open Go.RowKit

/-- What holds in CentreRefuses behind k inputs. -/
def RefJ (N b1 b2 b3 b4 : Nat) (_ : Nat) (c : Ce) (F : Nat → Prop) (w : World) : Prop := (∃ v oh, RefM F b1 b2 v oh c.fl c.ow w) ∧ V1 b3 3 (.int .i64 c.time) w ∧ V1 b4 3 (.int .i64 (c.log.length : Int)) w ∧ ¬ F b3 ∧ ¬ F b4
theorem step_code {S : Su} {c : Ce} {x : Inp} {ks : Nat → ByteArray} : ((stepP ks S c x).2 ≠ 0 → (stepP ks S c x).1 = c) ∧ ((stepP ks S c x).2 = 0 → (methP S c x).2 = 0 ∧ (stepP ks S c x).1 = bookC ks (methP S c x).1 x) := by
  unfold stepP
  split
  · exact ⟨fun _ => rfl, fun h => absurd (show (_ : Int) = 0 from h) (by simp)⟩
  split
  · exact ⟨fun _ => rfl, fun h => absurd (show (_ : Int) = 0 from h) (by simp)⟩
  split
  · rename_i h
    exact ⟨fun h => absurd rfl h, fun _ => ⟨h, rfl⟩⟩
  · rename_i h
    exact ⟨fun _ => rfl, fun h2 => absurd h2 h⟩
theorem off_mid {b1 b2 b3 b4 N N1 : Nat} {w w' : World} (h : Off (Four b1 b2 b3 b4) w w') (hN : N ≤ w.heap.size) (h1 : N ≤ b1 ∧ b1 < N1) (h2 : N ≤ b2 ∧ b2 < N1) (h3 : N ≤ b3 ∧ b3 < N1) (h4 : N ≤ b4 ∧ b4 < N1) : Mid N N1 w w' := by
  refine ⟨⟨h.os, h.tape, h.output, h.size, fun k hk => h.block k (by omega) (fun hf => ?_)⟩, fun k hk hkl => h.block k hkl (fun hf => ?_)⟩ <;> rcases hf with hf | hf | hf | hf <;> omega
theorem run30 (S : Su) (l : List Inp) (hs : List Hd) (N N1 m b1 b2 b3 b4 : Nat) (hm : m ≤ 14) (hN : N ≤ N1) (h1 : N ≤ b1 ∧ b1 < N1) (h2 : N ≤ b2 ∧ b2 < N1) (h3 : N ≤ b3 ∧ b3 < N1) (h4 : N ≤ b4 ∧ b4 < N1)
    (n12 : b1 ≠ b2) (n13 : b1 ≠ b3) (n14 : b1 ≠ b4) (n23 : b2 ≠ b3) (n24 : b2 ≠ b4) (n34 : b3 ≠ b4) :
    RunF kindsS S l hs N N1 m 30 #[.pointer (some ⟨b1, 0, none⟩), .pointer (some ⟨b2, 0, none⟩), .pointer (some ⟨b3, 0, none⟩), .pointer (some ⟨b4, 0, none⟩)] (RefJ N b1 b2 b3 b4) := by
  intro k c F F' g wa wb hk hS hok hacc hJ hF hF' hN1 hb hc hof hsub _
  obtain ⟨⟨v, oh, hr⟩, e3, e4, n3, n4⟩ := hJ
  have hokc : CeOk (stepP kindsS S c (l[k]!)).1 := step_ok hok (by omega) kindsS _
  have hacc' := step_acc (S := S) hok (by omega) kindsS (l[k]!)
  have hwb : N ≤ wb.heap.size := by have := hof.size; omega
  have q3 : ¬ F' b3 := fun h => by have := hF' _ h; omega
  have q4 : ¬ F' b4 := fun h => by have := hF' _ h; omega
  have hcode := step_code (S := S) (c := c) (x := l[k]!) (ks := kindsS)
  by_cases h0 : (stepP kindsS S c (l[k]!)).2 = 0
  · obtain ⟨hm0, hbk⟩ := hcode.2 h0
    have hlog : (methP S c (l[k]!)).1.log = c.log := (meth_time (S := S) hok (by omega) _).1
    have hl : (stepP kindsS S c (l[k]!)).1.log = c.log ++ [⟨(c.log.length : Int) + 1, (l[k]!).time, kindsS (l[k]!).kind.toNat, (l[k]!).call⟩] := by rw [hbk]; unfold bookC; rw [hlog]
    have hlen : (stepP kindsS S c (l[k]!)).1.log.length = c.log.length + 1 := by rw [hl]; simp
    have het : (stepP kindsS S c (l[k]!)).1.log[c.log.length]? = some ⟨(c.log.length : Int) + 1, (l[k]!).time, kindsS (l[k]!).kind.toNat, (l[k]!).call⟩ := by rw [hl]; simp
    have hti : (stepP kindsS S c (l[k]!)).1.time = (l[k]!).time := by rw [hbk]; rfl
    have hnF : ∀ q, Four b1 b2 b3 b4 q → ¬ F' q := fun q hq hf => by have := hF' q hf; rcases hq with h | h | h | h <;> omega
    rw [h0]
    refine (cl30_yes hc hokc (by omega) (hr.e1.off hof hr.n1) (hr.e2.off hof hr.n2) (e3.off hof n3) (e4.off hof n4) hnF n12 n13 n14 n23 n24 n34 (l[k]!) _ _ _ hlen het rfl rfl hti).mono ?_
    rintro e w' ⟨r1, r2, r3, r4, r5⟩
    exact ⟨r1, off_mid r5 hwb h1 h2 h3 h4, r2, r3, r4, q3, q4⟩
  · have hcc := hcode.1 h0
    have hr' := hr.off hof hsub
    have e3' := e3.off hof n3
    have e4' := e4.off hof n4
    rw [hcc] at hc hokc hacc' ⊢
    refine (cl30_no hc hokc (by omega) hr' e3' e4' (l[k]!) _ _ _ _ h0).mono ?_
    rintro e w' ⟨r1, r2⟩
    exact ⟨r1, .of_below r2 hwb, ⟨v, oh, hr'.below r2⟩, e3'.below r2, e4'.below r2, q3, q4⟩
set_option maxRecDepth 100000 in
set_option maxHeartbeats 8000000 in
theorem refuses_any (S : Su) (l : List Inp) (hs : List Hd) (A : Option Addr) (n cA : Nat) (w : World) (h : ArgOk S l hs A n cA w) :
    Calls Tryz.prog 8 #[suA S, .slice A n cA] w fun e w' => e = .returned (.bool true) ∧ Below w.heap.size w w' := by
  obtain ⟨V, hV, hbV, hzV, hgB⟩ := ArgOk.setup (S := S) (w := w)
  obtain ⟨V4, hV4⟩ : ∃ W, (((V.alloc (.cells #[.slice none 0 0] 37)).alloc (.cells #[.slice none 0 0] 55)).alloc (.cells #[.int .i64 0] 3)).alloc (.cells #[.int .i64 0] 3) = W := ⟨_, rfl⟩
  have hz4 : V4.heap.size = V.heap.size + 4 := by rw [← hV4]; simp only [size_al]
  have hbV4 : Below V.heap.size V V4 := by
    rw [← hV4]
    exact ((((Below.refl _ _).alloc (Nat.le_refl _) _).alloc (by simp) _).alloc (by simp only [size_al]; omega) _).alloc (by simp only [size_al]; omega) _
  have e1 : V1 V.heap.size 37 (.slice none 0 0) V4 := by
    rw [← hV4]
    have a1 := heap_alloc_new V (.cells #[.slice none 0 0] 37)
    have a2 := ((Below.refl (V.alloc (.cells #[.slice none 0 0] 37)).heap.size (V.alloc (.cells #[.slice none 0 0] 37))).alloc (Nat.le_refl _) (.cells #[.slice none 0 0] 55)).alloc (by simp only [size_al]; omega) (.cells #[.int .i64 0] 3) |>.alloc (by simp only [size_al]; omega) (.cells #[.int .i64 0] 3)
    exact (a2.block _ (by simp only [size_al]; omega)).trans a1
  have e2 : V1 (V.heap.size + 1) 55 (.slice none 0 0) V4 := by
    rw [← hV4]
    have a1 := heap_alloc_new (V.alloc (.cells #[.slice none 0 0] 37)) (.cells #[.slice none 0 0] 55)
    rw [size_al] at a1
    have a2 := ((Below.refl ((V.alloc (.cells #[.slice none 0 0] 37)).alloc (.cells #[.slice none 0 0] 55)).heap.size ((V.alloc (.cells #[.slice none 0 0] 37)).alloc (.cells #[.slice none 0 0] 55))).alloc (Nat.le_refl _) (.cells #[.int .i64 0] 3)).alloc (by simp only [size_al]; omega) (.cells #[.int .i64 0] 3)
    exact (a2.block _ (by simp only [size_al]; omega)).trans a1
  have e3 : V1 (V.heap.size + 1 + 1) 3 (.int .i64 0) V4 := by
    rw [← hV4]
    have a1 := heap_alloc_new ((V.alloc (.cells #[.slice none 0 0] 37)).alloc (.cells #[.slice none 0 0] 55)) (.cells #[.int .i64 0] 3)
    rw [size_al, size_al] at a1
    have a2 := (Below.refl (((V.alloc (.cells #[.slice none 0 0] 37)).alloc (.cells #[.slice none 0 0] 55)).alloc (.cells #[.int .i64 0] 3)).heap.size (((V.alloc (.cells #[.slice none 0 0] 37)).alloc (.cells #[.slice none 0 0] 55)).alloc (.cells #[.int .i64 0] 3))).alloc (Nat.le_refl _) (.cells #[.int .i64 0] 3)
    exact (a2.block _ (by simp only [size_al]; omega)).trans a1
  have e4 : V1 (V.heap.size + 1 + 1 + 1) 3 (.int .i64 0) V4 := by
    rw [← hV4]
    have a1 := heap_alloc_new (((V.alloc (.cells #[.slice none 0 0] 37)).alloc (.cells #[.slice none 0 0] 55)).alloc (.cells #[.int .i64 0] 3)) (.cells #[.int .i64 0] 3)
    rw [size_al, size_al, size_al] at a1
    exact a1
  have hbw4 : Below w.heap.size w V4 := hbV.trans (hbV4.mono hbV.size)
  have HG4 := Lib.hid ((hbV4.block w.heap.size (by omega)).trans hgB)
  have HB4 := Lib.hid hbw4
  have HZ4 := Lib.hid (show w.heap.size < V4.heap.size by omega)
  have HFa := Lib.hid (fact_any V4 (h.ks.below hbw4 h.pos) (by omega))
  have HR := Lib.hid (fun (W : World) (hb : Below V4.heap.size V4 W) => (run_any S l hs w.heap.size n (min n 14) A cA 30 #[.pointer (some ⟨V.heap.size, 0, none⟩), .pointer (some ⟨V.heap.size + 1, 0, none⟩), .pointer (some ⟨V.heap.size + 1 + 1, 0, none⟩), .pointer (some ⟨V.heap.size + 1 + 1 + 1, 0, none⟩)] (RefJ w.heap.size V.heap.size (V.heap.size + 1) (V.heap.size + 1 + 1) (V.heap.size + 1 + 1 + 1)) W kindsS (h.ks.below (hbw4.trans (hb.mono hbw4.size)) h.pos) kindsS_ok h.pos (Nat.le_trans hbw4.size hb.size) rfl (h.ins.below (hbw4.trans (hb.mono hbw4.size))) h.cap h.nil
    (fun k c F W1 W2 hJ hb2 => by
      obtain ⟨⟨v, oh, hr⟩, a3, a4, a5⟩ := hJ
      exact ⟨⟨v, oh, hr.below hb2⟩, a3.below hb2, a4.below hb2, a5⟩)
    (fun F W1 hb2 hF => by
      have hbb := hb.trans (hb2.mono hb.size)
      have hsz := hb.size
      have hn : ∀ q, q < V.heap.size + 4 → ¬ F q := fun q hq hf => by have := hF q hf; omega
      exact ⟨⟨⟨none, 0, 0⟩, ⟨none, 0, 0⟩, ⟨e1.below hbb, e2.below hbb, hn _ (by omega), hn _ (by omega), by omega, ⟨[], [], ⟨rfl, rfl, ⟨World.ownsRow_nil _ _ _ _, fun k hk => by cases hk⟩, fun i hi => absurd hi (by simp [newC])⟩⟩, rfl, ⟨World.ownsRow_nil _ _ _ _, fun k hk => by cases hk⟩⟩⟩, e3.below hbb, e4.below hbb, hn _ (by omega), hn _ (by omega)⟩)
    ⟨_, _, rfl, by kernel_rfl, rfl⟩ (run30 S l hs _ _ _ _ _ _ _ (by omega) (Nat.le_trans hbw4.size hb.size) (by have := hb.size; omega) (by have := hb.size; omega) (by have := hb.size; omega) (by have := hb.size; omega) (by omega) (by omega) (by omega) (by omega) (by omega) (by omega))).mono fun e W' hh => (show e = .returned (.bool true) ∧ Below w.heap.size W W' from ⟨hh.1, hh.2.1⟩))
  unfold suA setupA at HR ⊢
  rw [hzV] at HR
  clear hbV hgB h e1 e2 e3 e4 hbV4 hbw4 hz4
  go_enter Tryz.func8, Tryz.ntmps8
  have HV4 := Lib.hid hV4
  clear hV4
  go_upto_region 4 with (fail)
  rw [HV4.out]
  go_wp2_with (first
    | (first | (refine wpList_load_row rfl 27 _ rfl w.heap.size rfl 27 _ (0, 0) _ HG1.out Tryz.underlying27 rfl (by kernel_rfl) ?_) | (refine wpList_load_row_w 27 _ rfl w.heap.size rfl rfl 27 _ (0, 0) _ HG1.out Tryz.underlying27 rfl (by kernel_rfl) ?_))
    | (go_at_call 11; go_loud (refine HFa.out.mono ?_; rintro e w1 ⟨rfl, hb1⟩; have HG1 := Lib.hid ((hb1.block w.heap.size (by have := HZ4.out; omega)).trans HG4.out); have HB1 := Lib.hid hb1; clear hb1))
    | (go_at_call 12; go_loud (refine (HR.out w1 HB1.out).mono ?_; rintro e w2 ⟨rfl, hb2⟩; have HB2 := Lib.hid hb2; clear hb2)))
  go_ret
  exact ⟨rfl, (HB4.out.trans (HB1.out.mono HB4.out.size)).trans HB2.out⟩
end Go.Proofs.YtjmdcpcoliljfaaGreatDoor

/- CentreRefuses returns true for every input. -/
namespace Go.Proofs.YtjmdcpcoliljfaaGreatDoor
open Go.ChangeShapes Go.WideShapes Go.ChangeAt Go.RowKit Go.ChangeMaps

set_option maxRecDepth 100000 in
theorem CentreRefuses_lifted (os : Os) (started : os.Started) (H : Type) (enc : TypeId × Value → H) :
    ReturnsInHanded {} Tryz.checked os 8 .any (fun w args => (Rows.centreRefusesSpec.pre enc Tryz.prog Tryz.f8 [] false w args ∧ laidMetH Tryz.prog laid7 w) ∧ sizedMet enc Tryz.prog Tryz.f8 (OpenSpec.ofChange Rows.centreRefusesSpec) false w args) (Rows.centreRefusesSpec.post enc Tryz.prog Tryz.f8 false true false false) := by
  refine Law.lifted laid7 started (by kernel_rfl) Tryz.func8 (by kernel_rfl) (tb := 4) rfl Tryz.underlying4 rfl (fun H ds hl => ?_)
    (ChangeSpec.witness_shaped (enc := enc) (C := Tryz.checked) (os := os) (X := fun w _ => laidMetH Tryz.prog laid7 w) false (World.laidAll Tryz.prog os laid7) #[.agg #[.int .i64 0, .int .i64 0, .int .i64 0, .int .i64 0, .int .i64 0, .int .i64 0, .int .i64 0, .int .i64 0, .int .i64 0, .int .i64 0, .int .i64 0, .int .i64 0, .int .i64 0, .int .i64 0, .int .i64 0, .int .i64 0, .int .i64 0, .int .i64 0], .slice none 0 0] 8 (World.laidAll_os _ _ _) (World.shaped_of_ZipB (by kernel_rfl) (by kernel_rfl)) (by kernel_rfl) (by kernel_rfl) (by kernel_rfl) (door_met os _)) ?_
  · match ds, hl with
    | [d0, d1], _ => rfl
  intro W base args ds p hval hA hwt hlt hlaid hsh
  rw [Tryz.params8] at hA hval
  obtain ⟨hks, h0W⟩ := ks_of hlaid
  obtain ⟨v0, v1, d0, d1, p0, p1, rfl, rfl, rfl, h0, h1⟩ := trodAll_two hA
  obtain ⟨S, rfl⟩ := open_setup (hval 0 27 v0 rfl rfl) h0
  obtain ⟨A, n, cA, l, hs, rfl, hI, hn, hc, hnil⟩ := open_inps (hval 1 28 v1 rfl rfl) h1
  exact refuses_any S l hs A n cA W ⟨hks, h0W, hI, ⟨hn, hc⟩, hnil⟩

theorem CentreRefuses_row : Rows.CentreRefusesSaid :=
  OpenClaim.holds_of_wide 8 Tryz.f8 rfl rfl rfl rfl rfl rfl rfl ⟨rfl, rfl, rfl, rfl, rfl⟩ rfl rfl rfl rfl rfl (by kernel_rfl) Tryz.func8 (by kernel_rfl)
    (of_decide_eq_true (by kernel_rfl)) (by unfold Func.isWrapper; rw [if_neg (of_decide_eq_false (by kernel_rfl))]; exact ⟨rfl, rfl⟩)
    (fun os started H enc _ => CentreRefuses_lifted os started H enc)

theorem CentreRefuses_holds : Rows.CentreRefusesCardSaid :=
  Claim7.holds_tied_plain_at .later [] [.data, .data, .pinned] true (true, "b04f4bc368db86cd971aec41a7157e911366481ce75ba95dee482ec0a4a43df3") false
    CentreRefuses_row (fun _ h => by cases h) (by kernel_rfl) (fun _ h => by cases h) centreRefuses_row_tie rfl ⟨rfl, rfl⟩ (by kernel_rfl) rfl
    (fun f fn hf hfn => by
      obtain rfl : f = 8 := Option.some.inj ((show Tryz.prog.funcNamed "skyway/skywaykeep4.CentreRefuses" = some 8 by kernel_rfl).symm.trans hf) |>.symm
      obtain rfl : fn = Tryz.f8 := (Option.some.inj (Tryz.func8.symm.trans hfn)).symm
      exact ⟨by kernel_rfl, fun j t ht => by
        rw [Tryz.params8] at ht
        have hm : t ∈ [27, 28] := by simpa using Array.mem_of_getElem? ht
        have hall : ([27, 28].all fun u => !Tryz.prog.wantsStandIn u) = true := by kernel_rfl
        exact (show Tryz.prog.wantsStandIn t = false by simpa using List.all_eq_true.1 hall t hm)⟩)
    (by kernel_rfl)
end Go.Proofs.YtjmdcpcoliljfaaGreatDoor

