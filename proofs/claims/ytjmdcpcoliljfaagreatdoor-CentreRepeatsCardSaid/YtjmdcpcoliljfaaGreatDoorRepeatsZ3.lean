/- Texts U38, U40, U41, U42. -/
import Derived.Test.YtjmdcpcoliljfaaGreatDoorRepeatsZ2
/- CentreRefuses: the walk. -/
namespace Go.Proofs.YtjmdcpcoliljfaaGreatDoor
open Go.RowKit

/-- What holds in CentreRefuses behind k inputs. -/
def RefJ (N b1 b2 b3 b4 : Nat) (_ : Nat) (c : Ce) (F : Nat → Prop) (w : World) : Prop := (∃ v oh, RefM F b1 b2 v oh c.fl c.ow w) ∧ V1 b3 3 (.int .i64 c.time) w ∧ V1 b4 3 (.int .i64 (c.log.length : Int)) w ∧ ¬ F b3 ∧ ¬ F b4
theorem step_code {S : Su} {c : Ce} {x : Inp} {ks : Nat → ByteArray} : ((stepP ks S c x).2 ≠ 0 → (stepP ks S c x).1 = c) ∧ ((stepP ks S c x).2 = 0 → (methP S c x).2 = 0 ∧ (stepP ks S c x).1 = bookC ks (methP S c x).1 x) := by
  unfold stepP
  split
  · exact ⟨fun _ => rfl, fun h => absurd (show (_ : Int) = 0 from h) (by simp)⟩
  split
  · exact ⟨fun _ => rfl, fun h => absurd (show (_ : Int) = 0 from h) (by simp)⟩
  split
  · rename_i h
    exact ⟨fun h => absurd rfl h, fun _ => ⟨h, rfl⟩⟩
  · rename_i h
    exact ⟨fun _ => rfl, fun h2 => absurd h2 h⟩
theorem off_mid {b1 b2 b3 b4 N N1 : Nat} {w w' : World} (h : Off (Four b1 b2 b3 b4) w w') (hN : N ≤ w.heap.size) (h1 : N ≤ b1 ∧ b1 < N1) (h2 : N ≤ b2 ∧ b2 < N1) (h3 : N ≤ b3 ∧ b3 < N1) (h4 : N ≤ b4 ∧ b4 < N1) : Mid N N1 w w' := by
  refine ⟨⟨h.os, h.tape, h.output, h.size, fun k hk => h.block k (by omega) (fun hf => ?_)⟩, fun k hk hkl => h.block k hkl (fun hf => ?_)⟩ <;> rcases hf with hf | hf | hf | hf <;> omega
theorem run30 (S : Su) (l : List Inp) (hs : List Hd) (N N1 m b1 b2 b3 b4 : Nat) (hm : m ≤ 14) (hN : N ≤ N1) (h1 : N ≤ b1 ∧ b1 < N1) (h2 : N ≤ b2 ∧ b2 < N1) (h3 : N ≤ b3 ∧ b3 < N1) (h4 : N ≤ b4 ∧ b4 < N1)
    (n12 : b1 ≠ b2) (n13 : b1 ≠ b3) (n14 : b1 ≠ b4) (n23 : b2 ≠ b3) (n24 : b2 ≠ b4) (n34 : b3 ≠ b4) :
    RunF kindsS S l hs N N1 m 30 #[.pointer (some ⟨b1, 0, none⟩), .pointer (some ⟨b2, 0, none⟩), .pointer (some ⟨b3, 0, none⟩), .pointer (some ⟨b4, 0, none⟩)] (RefJ N b1 b2 b3 b4) := by
  intro k c F F' g wa wb hk hS hok hacc hJ hF hF' hN1 hb hc hof hsub _
  obtain ⟨⟨v, oh, hr⟩, e3, e4, n3, n4⟩ := hJ
  have hokc : CeOk (stepP kindsS S c (l[k]!)).1 := step_ok hok (by omega) kindsS _
  have hacc' := step_acc (S := S) hok (by omega) kindsS (l[k]!)
  have hwb : N ≤ wb.heap.size := by have := hof.size; omega
  have q3 : ¬ F' b3 := fun h => by have := hF' _ h; omega
  have q4 : ¬ F' b4 := fun h => by have := hF' _ h; omega
  have hcode := step_code (S := S) (c := c) (x := l[k]!) (ks := kindsS)
  by_cases h0 : (stepP kindsS S c (l[k]!)).2 = 0
  · obtain ⟨hm0, hbk⟩ := hcode.2 h0
    have hlog : (methP S c (l[k]!)).1.log = c.log := (meth_time (S := S) hok (by omega) _).1
    have hl : (stepP kindsS S c (l[k]!)).1.log = c.log ++ [⟨(c.log.length : Int) + 1, (l[k]!).time, kindsS (l[k]!).kind.toNat, (l[k]!).call⟩] := by rw [hbk]; unfold bookC; rw [hlog]
    have hlen : (stepP kindsS S c (l[k]!)).1.log.length = c.log.length + 1 := by rw [hl]; simp
    have het : (stepP kindsS S c (l[k]!)).1.log[c.log.length]? = some ⟨(c.log.length : Int) + 1, (l[k]!).time, kindsS (l[k]!).kind.toNat, (l[k]!).call⟩ := by rw [hl]; simp
    have hti : (stepP kindsS S c (l[k]!)).1.time = (l[k]!).time := by rw [hbk]; rfl
    have hnF : ∀ q, Four b1 b2 b3 b4 q → ¬ F' q := fun q hq hf => by have := hF' q hf; rcases hq with h | h | h | h <;> omega
    rw [h0]
    refine (cl30_yes hc hokc (by omega) (hr.e1.off hof hr.n1) (hr.e2.off hof hr.n2) (e3.off hof n3) (e4.off hof n4) hnF n12 n13 n14 n23 n24 n34 (l[k]!) _ _ _ hlen het rfl rfl hti).mono ?_
    rintro e w' ⟨r1, r2, r3, r4, r5⟩
    exact ⟨r1, off_mid r5 hwb h1 h2 h3 h4, r2, r3, r4, q3, q4⟩
  · have hcc := hcode.1 h0
    have hr' := hr.off hof hsub
    have e3' := e3.off hof n3
    have e4' := e4.off hof n4
    rw [hcc] at hc hokc hacc' ⊢
    refine (cl30_no hc hokc (by omega) hr' e3' e4' (l[k]!) _ _ _ _ h0).mono ?_
    rintro e w' ⟨r1, r2⟩
    exact ⟨r1, .of_below r2 hwb, ⟨v, oh, hr'.below r2⟩, e3'.below r2, e4'.below r2, q3, q4⟩
set_option maxRecDepth 100000 in
set_option maxHeartbeats 8000000 in
theorem refuses_any (S : Su) (l : List Inp) (hs : List Hd) (A : Option Addr) (n cA : Nat) (w : World) (h : ArgOk S l hs A n cA w) :
    Calls Tryz.prog 8 #[suA S, .slice A n cA] w fun e w' => e = .returned (.bool true) ∧ Below w.heap.size w w' := by
  obtain ⟨V, hV, hbV, hzV, hgB⟩ := ArgOk.setup (S := S) (w := w)
  obtain ⟨V4, hV4⟩ : ∃ W, (((V.alloc (.cells #[.slice none 0 0] 37)).alloc (.cells #[.slice none 0 0] 55)).alloc (.cells #[.int .i64 0] 3)).alloc (.cells #[.int .i64 0] 3) = W := ⟨_, rfl⟩
  have hz4 : V4.heap.size = V.heap.size + 4 := by rw [← hV4]; simp only [size_al]
  have hbV4 : Below V.heap.size V V4 := by
    rw [← hV4]
    exact ((((Below.refl _ _).alloc (Nat.le_refl _) _).alloc (by simp) _).alloc (by simp only [size_al]; omega) _).alloc (by simp only [size_al]; omega) _
  have e1 : V1 V.heap.size 37 (.slice none 0 0) V4 := by
    rw [← hV4]
    have a1 := heap_alloc_new V (.cells #[.slice none 0 0] 37)
    have a2 := ((Below.refl (V.alloc (.cells #[.slice none 0 0] 37)).heap.size (V.alloc (.cells #[.slice none 0 0] 37))).alloc (Nat.le_refl _) (.cells #[.slice none 0 0] 55)).alloc (by simp only [size_al]; omega) (.cells #[.int .i64 0] 3) |>.alloc (by simp only [size_al]; omega) (.cells #[.int .i64 0] 3)
    exact (a2.block _ (by simp only [size_al]; omega)).trans a1
  have e2 : V1 (V.heap.size + 1) 55 (.slice none 0 0) V4 := by
    rw [← hV4]
    have a1 := heap_alloc_new (V.alloc (.cells #[.slice none 0 0] 37)) (.cells #[.slice none 0 0] 55)
    rw [size_al] at a1
    have a2 := ((Below.refl ((V.alloc (.cells #[.slice none 0 0] 37)).alloc (.cells #[.slice none 0 0] 55)).heap.size ((V.alloc (.cells #[.slice none 0 0] 37)).alloc (.cells #[.slice none 0 0] 55))).alloc (Nat.le_refl _) (.cells #[.int .i64 0] 3)).alloc (by simp only [size_al]; omega) (.cells #[.int .i64 0] 3)
    exact (a2.block _ (by simp only [size_al]; omega)).trans a1
  have e3 : V1 (V.heap.size + 1 + 1) 3 (.int .i64 0) V4 := by
    rw [← hV4]
    have a1 := heap_alloc_new ((V.alloc (.cells #[.slice none 0 0] 37)).alloc (.cells #[.slice none 0 0] 55)) (.cells #[.int .i64 0] 3)
    rw [size_al, size_al] at a1
    have a2 := (Below.refl (((V.alloc (.cells #[.slice none 0 0] 37)).alloc (.cells #[.slice none 0 0] 55)).alloc (.cells #[.int .i64 0] 3)).heap.size (((V.alloc (.cells #[.slice none 0 0] 37)).alloc (.cells #[.slice none 0 0] 55)).alloc (.cells #[.int .i64 0] 3))).alloc (Nat.le_refl _) (.cells #[.int .i64 0] 3)
    exact (a2.block _ (by simp only [size_al]; omega)).trans a1
  have e4 : V1 (V.heap.size + 1 + 1 + 1) 3 (.int .i64 0) V4 := by
    rw [← hV4]
    have a1 := heap_alloc_new (((V.alloc (.cells #[.slice none 0 0] 37)).alloc (.cells #[.slice none 0 0] 55)).alloc (.cells #[.int .i64 0] 3)) (.cells #[.int .i64 0] 3)
    rw [size_al, size_al, size_al] at a1
    exact a1
  have hbw4 : Below w.heap.size w V4 := hbV.trans (hbV4.mono hbV.size)
  have HG4 := Lib.hid ((hbV4.block w.heap.size (by omega)).trans hgB)
  have HB4 := Lib.hid hbw4
  have HZ4 := Lib.hid (show w.heap.size < V4.heap.size by omega)
  have HFa := Lib.hid (fact_any V4 (h.ks.below hbw4 h.pos) (by omega))
  have HR := Lib.hid (fun (W : World) (hb : Below V4.heap.size V4 W) => (run_any S l hs w.heap.size n (min n 14) A cA 30 #[.pointer (some ⟨V.heap.size, 0, none⟩), .pointer (some ⟨V.heap.size + 1, 0, none⟩), .pointer (some ⟨V.heap.size + 1 + 1, 0, none⟩), .pointer (some ⟨V.heap.size + 1 + 1 + 1, 0, none⟩)] (RefJ w.heap.size V.heap.size (V.heap.size + 1) (V.heap.size + 1 + 1) (V.heap.size + 1 + 1 + 1)) W kindsS (h.ks.below (hbw4.trans (hb.mono hbw4.size)) h.pos) kindsS_ok h.pos (Nat.le_trans hbw4.size hb.size) rfl (h.ins.below (hbw4.trans (hb.mono hbw4.size))) h.cap h.nil
    (fun k c F W1 W2 hJ hb2 => by
      obtain ⟨⟨v, oh, hr⟩, a3, a4, a5⟩ := hJ
      exact ⟨⟨v, oh, hr.below hb2⟩, a3.below hb2, a4.below hb2, a5⟩)
    (fun F W1 hb2 hF => by
      have hbb := hb.trans (hb2.mono hb.size)
      have hsz := hb.size
      have hn : ∀ q, q < V.heap.size + 4 → ¬ F q := fun q hq hf => by have := hF q hf; omega
      exact ⟨⟨⟨none, 0, 0⟩, ⟨none, 0, 0⟩, ⟨e1.below hbb, e2.below hbb, hn _ (by omega), hn _ (by omega), by omega, ⟨[], [], ⟨rfl, rfl, ⟨World.ownsRow_nil _ _ _ _, fun k hk => by cases hk⟩, fun i hi => absurd hi (by simp [newC])⟩⟩, rfl, ⟨World.ownsRow_nil _ _ _ _, fun k hk => by cases hk⟩⟩⟩, e3.below hbb, e4.below hbb, hn _ (by omega), hn _ (by omega)⟩)
    ⟨_, _, rfl, by kernel_rfl, rfl⟩ (run30 S l hs _ _ _ _ _ _ _ (by omega) (Nat.le_trans hbw4.size hb.size) (by have := hb.size; omega) (by have := hb.size; omega) (by have := hb.size; omega) (by have := hb.size; omega) (by omega) (by omega) (by omega) (by omega) (by omega) (by omega))).mono fun e W' hh => (show e = .returned (.bool true) ∧ Below w.heap.size W W' from ⟨hh.1, hh.2.1⟩))
  unfold suA setupA at HR ⊢
  rw [hzV] at HR
  clear hbV hgB h e1 e2 e3 e4 hbV4 hbw4 hz4
  go_enter Tryz.func8, Tryz.ntmps8
  have HV4 := Lib.hid hV4
  clear hV4
  go_upto_region 4 with (fail)
  rw [HV4.out]
  go_wp2_with (first
    | (first | (refine wpList_load_row rfl 27 _ rfl w.heap.size rfl 27 _ (0, 0) _ HG1.out Tryz.underlying27 rfl (by kernel_rfl) ?_) | (refine wpList_load_row_w 27 _ rfl w.heap.size rfl rfl 27 _ (0, 0) _ HG1.out Tryz.underlying27 rfl (by kernel_rfl) ?_))
    | (go_at_call 11; go_loud (refine HFa.out.mono ?_; rintro e w1 ⟨rfl, hb1⟩; have HG1 := Lib.hid ((hb1.block w.heap.size (by have := HZ4.out; omega)).trans HG4.out); have HB1 := Lib.hid hb1; clear hb1))
    | (go_at_call 12; go_loud (refine (HR.out w1 HB1.out).mono ?_; rintro e w2 ⟨rfl, hb2⟩; have HB2 := Lib.hid hb2; clear hb2)))
  go_ret
  exact ⟨rfl, (HB4.out.trans (HB1.out.mono HB4.out.size)).trans HB2.out⟩
end Go.Proofs.YtjmdcpcoliljfaaGreatDoor

/- A centre that is given inputs, where the function called after each may write what it has made itself. -/
namespace Go.Proofs.YtjmdcpcoliljfaaGreatDoor
open Go.RowKit

/-- The same, where the function may write what it has made itself: what run wants of its function fn, with the captured variables caps: J is what holds behind k inputs. -/
def RunF2 (ks : Nat → ByteArray) (S : Su) (l : List Inp) (hs : List Hd) (N N1 m fn : Nat) (caps : Array Value) (J : Nat → Ce → (Nat → Prop) → World → Prop) : Prop :=
  ∀ (k : Nat) (c : Ce) (F F' : Nat → Prop) (g : Nat) (wa wb : World), k < m → SuOk S → CeOk c → c.acc ≤ k → J k c F wa → (∀ b, F b → N1 ≤ b) → (∀ b, F' b → N1 ≤ b) → N1 ≤ wa.heap.size → Below N wa wb → CeAt F' g S (stepP ks S c l[k]!).1 wb → Off F wa wb → (∀ b, F' b → F b ∨ wa.heap.size < b) → wa.heap.size < wb.heap.size →
  TuA (hs[k]!).A (hs[k]!).n (l[k]!).tube wb →
  Calls Tryz.prog fn (#[.pointer (some ⟨g, 0, none⟩), inpV l[k]! (hs[k]!).A (hs[k]!).n (hs[k]!).c, .int .i64 (stepP ks S c l[k]!).2] ++ caps) wb fun e w' =>
    e = .returned (.bool true) ∧ (Below N wb w' ∧ Kept F' wb w' ∧ w'.heap[wa.heap.size]? = wb.heap[wa.heap.size]?) ∧ J (k + 1) (stepP ks S c l[k]!).1 F' w'
set_option maxRecDepth 100000 in
set_option maxHeartbeats 16000000 in
theorem run_any2 (S : Su) (l : List Inp) (hs : List Hd) (N n m : Nat) (A : Option Addr) (cA fn : Nat) (caps : Array Value) (J : Nat → Ce → (Nat → Prop) → World → Prop) (w : World) (ks : Nat → ByteArray)
    (hks : KsAt ks w) (hko : KsOk ks) (hN0 : 0 < N) (hN : N ≤ w.heap.size) (hm : m = min n 14) (hI : InsA N A n l hs w) (hcap : n ≤ cA ∧ cA ≤ maxLen) (hnil : A = none → n = 0 ∧ cA = 0)
    (hJb : ∀ k c F W W', J k c F W → Below W.heap.size W W' → J k c F W') (hJ0 : ∀ F W, Below w.heap.size w W → (∀ b, F b → w.heap.size ≤ b) → J 0 newC F W)
    (hfn : FunOk fn) (hF : RunF2 ks S l hs N w.heap.size m fn caps J) :
    Calls Tryz.prog 12 #[suA S, .slice A n cA, .func (.func fn) #[] caps] w (RunP S N m J w) := by
  have HN := Lib.hid (fun (W : World) => CNew_any S W)
  have HCk := Lib.hid (fun (W : World) => CCheck_any S.lat S.vert S.g W)
  obtain ⟨V, hV⟩ : ∃ V, w.alloc (suO S) = V := ⟨_, rfl⟩
  have hbV : Below w.heap.size w V := by rw [← hV]; exact (Below.refl _ _).alloc (Nat.le_refl _) _
  have hzV : V.heap.size = w.heap.size + 1 := by rw [← hV, size_al]
  have hgB : V.heap[w.heap.size]? = some (suO S) := by rw [← hV]; exact heap_alloc_new _ _
  unfold suO at hV hgB
  have HGB := Lib.hid hgB
  have HBV := Lib.hid hbV
  have HKS := Lib.hid hks
  have HKO := Lib.hid hko
  have HI := Lib.hid hI
  have HJB := Lib.hid hJb
  have HJ0 := Lib.hid hJ0
  have HF := Lib.hid hF
  have HFun := Lib.hid hfn
  obtain ⟨R, hR⟩ : ∃ R, RunP S N m J w = R := ⟨_, rfl⟩
  have HRe := Lib.hid hR
  have HNs := Lib.hid hN
  have HN0 := Lib.hid hN0
  have HM := Lib.hid hm
  have HNil := Lib.hid hnil
  have HCap := Lib.hid hcap
  rw [hR]
  clear hgB hbV hks hko hI hJb hJ0 hF hfn hR hN0
  obtain ⟨k0, hk0⟩ : ∃ k, suE S = k := ⟨_, rfl⟩
  have HE := Lib.hid hk0
  have hk1 := hk0
  unfold suE at hk0
  rw [hk0] at HCk
  unfold suA at HN ⊢
  unfold setupA at HCk HN ⊢
  unfold NewP at HN
  rw [hk1] at HN
  clear hk0 hk1
  by_cases h0 : k0 = 0
  · subst h0
    have HN' := Lib.hid (fun (W : World) => (HN.out W).mono (by
      rintro e w' (⟨h1, _⟩ | ⟨_, g, h1, ⟨F, h2, h3⟩, h4⟩)
      · exact absurd rfl h1
      · exact ⟨g, h1, ⟨F, h2, h3⟩, h4⟩ : ∀ e w', _ → ∃ g, e = .returned (.tuple #[.pointer (some ⟨g, 0, none⟩), .int .i64 0]) ∧ (∃ F : Nat → Prop, CeAt F g S newC w' ∧ ∀ b, F b → W.heap.size < b) ∧ Below W.heap.size W w'))
    clear HN HCk
    go_enter Tryz.func12, Tryz.ntmps12
    go_upto_region 6 with (first
      | (first | (refine wpList_load_row rfl 27 _ rfl w.heap.size rfl 27 _ (0, 0) _ HGB.out Tryz.underlying27 rfl (by kernel_rfl) ?_) | (refine wpList_load_row_w 27 _ rfl w.heap.size rfl rfl 27 _ (0, 0) _ HGB.out Tryz.underlying27 rfl (by kernel_rfl) ?_))
      | (go_at_call 35; go_loud (refine (HN'.out _).mono ?_; rintro e w1 ⟨g, rfl, ⟨F, hc1, hF1⟩, hb1⟩; have HC1 := Lib.hid hc1; have HF1 := Lib.hid hF1; have HB1 := Lib.hid hb1; clear hc1 hF1 hb1)))
    have hz1 : w.heap.size < w1.heap.size := by have := HB1.out.size; omega
    have hN1 : Below N w w1 := (HBV.out.mono hN).trans (HB1.out.mono (by omega))
    have HN1 := Lib.hid hN1
    have hm14 : m ≤ 14 := by rw [HM.out]; omega
    have hmn : m ≤ n := by rw [HM.out]; omega
    have hmi : min (n : Int) 14 = (m : Int) := by rw [HM.out]; omega
    obtain ⟨A2, c2, hsl, hA2⟩ := takeIn (A := A) (c := cA) n m hmn HCap.out.1 HCap.out.2 HNil.out
    clear hm hN1 hcap hnil
    go_upto_region 7 with (fail)
    have hks1 := HKS.out
    go_loopw [34] (fun s wr => ∃ (k : Nat) (c : Ce) (F : Nat → Prop), k ≤ m ∧ s = .int .i64 (k : Int) ∧ Hid (CeAt F g S c wr ∧ CeOk c ∧ c.acc ≤ k) ∧ Hid (J k c F wr) ∧ Hid (∀ b, F b → w.heap.size ≤ b) ∧ Hid (Below N w wr ∧ w1.heap.size ≤ wr.heap.size)) (fun s _ => m - (intOf s).toNat)
    case atStart =>
      refine ⟨0, newC, F, by omega, rfl, Lib.hid ⟨HC1.out, new_ok, by decide⟩, Lib.hid (HJ0.out F w1 (HBV.out.trans (HB1.out.mono (by omega))) (fun b hb => by have := HF1.out b hb; omega)), Lib.hid (fun b hb => by have := HF1.out b hb; omega), Lib.hid ⟨HN1.out, Nat.le_refl _⟩⟩
    case round =>
      obtain ⟨k, c, F2, hk, rfl, HC, HJ, HFb, HB⟩ := hrel
      obtain ⟨wo, hwo⟩ : ∃ wo : World, wo = wr := ⟨_, rfl⟩
      subst hwo
      have hzr := HB.out.2
      by_cases hlt : k < m
      · have l0 : (0 : Int) ≤ (k : Int) := by omega
        have l1 : (k : Int) < (m : Int) := by omega
        have hkw : IntKind.i64.wrap ((k : Int) + 1) = (k : Int) + 1 := IntWalk.i64_in _ (by omega)
        have hkn : k < n := by omega
        have HIw := Lib.hid (HI.out.below HB.out.1)
        obtain ⟨b, off, hA, hbN, hrow⟩ := HIw.out.row (by omega)
        have hA2' := hA2 (by omega)
        rw [hA] at hA2'
        subst hA2'
        have hr : ∀ j v, (inV l[k]! hs[k]!)[j]? = some v → wo.cell? ⟨b, off + k * 9 + j, none⟩ = some v := hrow k hkn
        obtain ⟨x, hx⟩ : ∃ x, l[k]! = x := ⟨_, rfl⟩
        obtain ⟨⟨tA, tn, tc⟩, hh⟩ : ∃ h, hs[k]! = h := ⟨_, rfl⟩
        have HX := Lib.hid hx
        have HH := Lib.hid hh
        rw [hx, hh] at hr
        have q0 := hr 0 _ rfl
        have q1 := hr 1 _ rfl
        have q2 := hr 2 _ rfl
        have q3 := hr 3 _ rfl
        have q4 := hr 4 _ rfl
        have q5 := hr 5 _ rfl
        have q6 := hr 6 _ rfl
        have q7 := hr 7 _ rfl
        have q8 := hr 8 _ rfl
        simp only [Nat.add_zero] at q0
        clear hr hrow hx hh hks1
        go_upto_region 9 with (fail)
        obtain ⟨w8, hw8⟩ : ∃ W, wo.alloc (.cells #[.int .i64 x.kind, .int .i64 x.time, .string x.call, .string x.by_, .string x.to_, .slice tA tn tc, .int .i64 x.wake, .int .i64 x.slot, .bool x.lands] 35) = W := ⟨_, rfl⟩
        have hb8 : Below wo.heap.size wo w8 := by rw [← hw8]; exact (Below.refl _ _).alloc (Nat.le_refl _) _
        have hB8 : w8.heap[wo.heap.size]? = some (.cells #[.int .i64 x.kind, .int .i64 x.time, .string x.call, .string x.by_, .string x.to_, .slice tA tn tc, .int .i64 x.wake, .int .i64 x.slot, .bool x.lands] 35) := by rw [← hw8]; exact heap_alloc_new _ _
        have hz8 : w8.heap.size = wo.heap.size + 1 := by rw [← hw8, size_al]
        rw [hw8]
        clear hw8 q0 q1 q2 q3 q4 q5 q6 q7 q8
        have hSO : SuOk S := suE_ok HE.out
        have hzw : w.heap.size ≤ w8.heap.size := by omega
        have hNw : Below N w w8 := HB.out.1.trans (hb8.mono (by omega))
        have hC8 : CeAt F2 g S c w8.drew := HC.out.1.elim fun y hy => ⟨y, hy.below hb8.drew⟩
        have hxF : ¬ F2 wo.heap.size := fun h => by obtain ⟨y, hy⟩ := HC.out.1; have := hy.bd _ h; omega
        have hT8 : TuA tA tn x.tube w8.drew := by have := (HI.out.below hNw.drew).tube k hkn; rw [HX.out, HH.out] at this; exact this.tua (by show N ≤ w8.heap.size; omega)
        have hBx : InB x := by have := HI.out.bd k hkn; rw [HX.out] at this; exact this
        have h20 : c.acc < 20 := by have := HC.out.2.2; omega
        have htn : tn ≤ maxLen := by rw [← hT8.1]; exact hBx.tube
        have HSt := Lib.hid (Step_low (N := w.heap.size) (w := w8.drew) hC8 HFb.out (by have := HN0.out; omega) hzw HC.out.2.1 hSO h20 x tA tn tc hT8 htn hBx.call hBx.by_ hBx.to_ ks (HKS.out.below hNw.drew HN0.out) HKO.out)
        have HCl := Lib.hid (fun (w9 : World) (F3 : Nat → Prop) (h1 : CeAt F3 g S (stepP ks S c x).1 w9) (h2 : ∀ b, F3 b → w.heap.size ≤ b) (h3 : Off F2 w8 w9) (h4 : ∀ b, F3 b → F2 b ∨ w8.heap.size ≤ b) (h5 : Below w.heap.size w8 w9) => (by
          have h := HF.out k c F2 F3 g wo w9 hlt hSO HC.out.2.1 HC.out.2.2 HJ.out HFb.out h2 (by omega) ((hb8.mono (by omega)).trans (h5.mono HNs.out)) (by rw [HX.out]; exact h1) ((Off.of_below hb8).trans' h3) (fun b hb => (h4 b hb).imp id (fun h => by omega)) (by have := h3.size; omega)
          rw [HX.out, HH.out] at h
          exact h ((HI.out.below (hNw.trans (h5.mono HNs.out))).tube k hkn |> fun t => by rw [HX.out, HH.out] at t; exact t.tua (by have := h5.size; show N ≤ w9.heap.size; omega))))
        have hokc : CeOk (stepP ks S c x).1 := step_ok HC.out.2.1 h20 ks x
        have hacc : (stepP ks S c x).1.acc ≤ k + 1 := by have := step_acc (S := S) HC.out.2.1 h20 ks x; have := HC.out.2.2; omega
        obtain ⟨⟨c3, kk⟩, hst⟩ : ∃ r, stepP ks S c x = r := ⟨_, rfl⟩
        rw [hst] at HSt HCl hokc hacc
        dsimp only at HCl hokc hacc
        unfold inpV at HSt HCl
        have HOK := Lib.hid hokc
        have HAC := Lib.hid hacc
        have HXF := Lib.hid hxF
        have HB8 := Lib.hid hB8
        have HNW := Lib.hid hNw
        clear hst hokc hacc hC8 hT8 hBx htn hSO hxF hB8 hNw
        refine wp_region_held_drew (S := (fun W => W.heap[wo.heap.size]? = some (.cells #[.int .i64 x.kind, .int .i64 x.time, .string x.call, .string x.by_, .string x.to_, .slice tA tn tc, .int .i64 x.wake, .int .i64 x.slot, .bool x.lands] 35))) (by kernel_rfl) HB8.out (fun hHeld => ?_)
        refine wpAnyH_take (i := 0) (oi := ⟨some 38, _, _, _, _, _⟩) (v := ?u0) rfl (by kernel_rfl) (by kernel_rfl) (by kernel_rfl) (fun _ _ _ h => h) (Or.inl ⟨by rfl, ?p0⟩) hHeld ?q0
        case p0 => (intro W hSw; go_simp; try with_reducible rfl)
        try simp only [Act.put, List.setIfInBounds_toArray, List.set_cons_zero, List.set_cons_succ]
        refine wpAnyH_take (i := 1) (oi := ⟨some 39, _, _, _, _, _⟩) (v := ?u1) rfl (by kernel_rfl) (by kernel_rfl) (by kernel_rfl) (fun _ _ _ h => h) (Or.inl ⟨by rfl, ?p1⟩) hHeld ?q1
        case p1 => (intro W hSw; go_simp; try with_reducible rfl)
        try simp only [Act.put, List.setIfInBounds_toArray, List.set_cons_zero, List.set_cons_succ]
        refine wpAnyH_take (i := 2) (oi := ⟨some 40, _, _, _, _, _⟩) (v := ?u2) rfl (by kernel_rfl) (by kernel_rfl) (by kernel_rfl) (fun _ _ _ h => h) (Or.inl ⟨by rfl, ?p2⟩) hHeld ?q2
        case p2 => (intro W hSw; refine run_exec_row (P := Tryz.prog) 35 (.tmp 10) ?_ wo.heap.size ?_ 35 _ (0, 0) _ hSw Tryz.underlying35 rfl (by kernel_rfl) <;> rfl)
        try simp only [Act.put, List.setIfInBounds_toArray, List.set_cons_zero, List.set_cons_succ]
        refine wpAnyH_take (i := 3) (oi := ⟨some 41, _, _, _, _, _⟩) (v := ?u3) rfl (by kernel_rfl) (by kernel_rfl) (by kernel_rfl) (fun _ _ _ h => h) (Or.inl ⟨by rfl, ?p3⟩) hHeld ?q3
        case p3 => (intro W hSw; go_simp; try with_reducible rfl)
        try simp only [Act.put, List.setIfInBounds_toArray, List.set_cons_zero, List.set_cons_succ]
        refine wpAnyH_take (i := 4) (oi := ⟨some 42, _, _, _, _, _⟩) (v := ?u4) rfl (by kernel_rfl) (by kernel_rfl) (by kernel_rfl) (fun _ _ _ h => h) (Or.inl ⟨by rfl, ?p4⟩) hHeld ?q4
        case p4 => (intro W hSw; refine run_exec_row (P := Tryz.prog) 35 (.tmp 10) ?_ wo.heap.size ?_ 35 _ (0, 0) _ hSw Tryz.underlying35 rfl (by kernel_rfl) <;> rfl)
        try simp only [Act.put, List.setIfInBounds_toArray, List.set_cons_zero, List.set_cons_succ]
        refine wpAnyH_ready (rs := [5]) (by kernel_rfl) (by simp) ?_
        refine (AllReadyH.cons (o := ⟨some 43, _, _, _, _, _⟩) rfl (fun K hK => ?_) AllReadyH.nil)
        go_simp
        go_at_call 36
        (with_reducible refine HSt.out.mono ?_)
        rintro e w9 ⟨⟨rfl, hb9, _⟩, hof9, F3, hc9, hs9⟩
        have hof9 : Off F2 w8 w9 := ⟨hof9.os, hof9.tape, hof9.output, hof9.size, hof9.block⟩
        have hb9 : Below w.heap.size w8 w9 := ⟨hb9.os, hb9.tape, hb9.output, hb9.size, hb9.block⟩
        have hx9 := (hof9.block wo.heap.size (by show _ < w8.heap.size; omega) HXF.out).trans HB8.out
        have HB9 := Lib.hid hb9
        have HC9 := Lib.hid hc9
        have HX9 := Lib.hid hx9
        have hF9 : ∀ b, F3 b → w.heap.size ≤ b := fun b hb => (hs9 b hb).elim (HFb.out b) (fun h => by have h : w8.heap.size ≤ b := h; omega)
        have HF9 := Lib.hid hF9
        have HCq := Lib.hid (HCl.out w9 F3 hc9 hF9 hof9 hs9 hb9)
        clear HCl hof9 hc9 hs9 hF9 hb9
        refine hK.out _ _ hx9 (fun hHeld => ?_)
        clear hK K hx9
        try simp only [Act.put, List.setIfInBounds_toArray, List.set_cons_zero, List.set_cons_succ]
        refine wpAnyH_ready (rs := [6]) (by kernel_rfl) (by simp) ?_
        refine (AllReadyH.cons (o := ⟨some 44, _, _, _, _, _⟩) rfl (fun K hK => ?_) AllReadyH.nil)
        go_simp
        obtain ⟨fnF, fnC, e1, e2, e3⟩ := HFun.out
        rw [call_enter e1 e2 e3]
        clear e1 e2 e3
        show Calls Tryz.prog fn _ w9 _
        refine HCq.out.mono ?_
        rintro e w10 ⟨rfl, hmid, hJ10⟩
        have HMid := Lib.hid hmid
        have HJ10 := Lib.hid hJ10
        have hx10 := hmid.2.2.trans HX9.out
        clear hmid hJ10
        go_simp
        refine hK.out _ _ hx10 (fun hHeld => ?_)
        clear hK K
        try simp only [Act.put, List.setIfInBounds_toArray, List.set_cons_zero, List.set_cons_succ]
        refine wpAnyH_ready (rs := [7]) (by kernel_rfl) (by simp) ?_
        refine (AllReadyH.cons (o := ⟨some 45, _, _, _, _, _⟩) rfl (fun K hK => ?_) AllReadyH.nil)
        go_simp
        refine hK.out _ _ hx10 (fun hHeld => ?_)
        clear hK K hx10
        try simp only [Act.put, List.setIfInBounds_toArray, List.set_cons_zero, List.set_cons_succ]
        refine wpAnyH_done (by kernel_rfl) ?_ _
        go_wp2_with fail
        go_roundw
        case rel =>
          have hM := HMid.out
          have h9 := HB9.out.size
          have h10 := hM.1.size
          refine ⟨_, _, _, ⟨k + 1, by omega, rfl, c3, F3, Lib.hid ⟨HC9.out.elim fun y hy => ⟨y, hy.kept hM.2.1⟩, HOK.out, HAC.out⟩, HJ10, HF9, Lib.hid ⟨(HNW.out.trans (HB9.out.mono HNs.out)).trans hM.1, by omega⟩⟩, rfl, rfl, by go_num⟩
        case measure => simp [intOf]; omega
      · obtain rfl : m = k := by omega
        have HR : Hid (R (.returned (.bool true)) wo) := Lib.hid (by rw [← HRe.out]; exact ⟨rfl, HB.out.1, fun _ => ⟨c, F2, HC.out.2.1, HJ.out⟩⟩)
        go_wp2
        (try go_ret)
        exact HR.out
  · have eb : (k0 != 0) = true := by simpa using h0
    have ek : (k0 == k0) = true := by simp
    have HN' := Lib.hid (fun (W : World) => (HN.out W).mono (by
      rintro e w' (⟨_, h1, h2⟩ | ⟨h1, _⟩)
      · exact ⟨h1, h2⟩
      · exact absurd h1 h0 : ∀ e w', _ → e = .returned (.tuple #[.pointer none, .int .i64 k0]) ∧ Below W.heap.size W w'))
    clear HN
    go_enter Tryz.func12, Tryz.ntmps12
    go_wp2_with (first
      | (first | (refine wpList_load_row rfl 27 _ rfl w.heap.size rfl 27 _ (0, 0) _ (by first | exact HGB.out | exact HGB1.out) Tryz.underlying27 rfl (by kernel_rfl) ?_) | (refine wpList_load_row_w 27 _ rfl w.heap.size rfl rfl 27 _ (0, 0) _ (by first | exact HGB.out | exact HGB1.out) Tryz.underlying27 rfl (by kernel_rfl) ?_))
      | (go_at_call 35; go_loud (refine (HN'.out _).mono ?_; rintro e w1 ⟨rfl, hb1⟩; have HGB1 := Lib.hid ((hb1.block w.heap.size (by omega)).trans HGB.out); have HB1 := Lib.hid hb1; clear hb1))
      | (go_at_call 39; go_loud (refine (HCk.out _).mono ?_; rintro e w2 ⟨rfl, hb2⟩; have HB2 := Lib.hid hb2; clear hb2)))
    have hz1 := HB1.out.size
    have HR : Hid (R (.returned (.bool true)) w2) := Lib.hid (by
      rw [← HRe.out]
      exact ⟨rfl, ((HBV.out.mono HNs.out).trans (HB1.out.mono (by omega))).trans (HB2.out.mono (by omega)), fun h => absurd (HE.out.symm.trans h) h0⟩)
    (try go_ret)
    exact HR.out
end Go.Proofs.YtjmdcpcoliljfaaGreatDoor

/- The first function given to run in CentreRepeats: it keeps the accepted inputs. -/
namespace Go.Proofs.YtjmdcpcoliljfaaGreatDoor
open Go.RowKit

def inP (p : Inp × Hd) : List Value := inV p.1 p.2
theorem inP_len (p : Inp × Hd) : (inP p).length = 9 := rfl
instance : Inhabited (Inp × Hd) := ⟨(default, default)⟩
/-- The accepted inputs, kept in a row of the law's own. -/
structure AccM (F : Nat → Prop) (N b1 : Nat) (aA : Option Addr) (ac : Nat) (ps : List (Inp × Hd)) (w : World) : Prop where
  e : V1 b1 28 (.slice aA ps.length ac) w
  n : ¬ F b1
  own : OwnF (fun k => ¬ F k ∧ N ≤ k) w 35 9 (.slice aA ps.length ac) ps.length (rowsV inP ps)
  tb : ∀ p ∈ ps, TuN N p.2 p.1.tube w ∧ InB p.1
theorem AccM.below {F : Nat → Prop} {N b1 : Nat} {aA : Option Addr} {ac : Nat} {ps : List (Inp × Hd)} {w w' : World} (h : AccM F N b1 aA ac ps w) (hN : N ≤ w.heap.size) (hb : Below w.heap.size w w') : AccM F N b1 aA ac ps w' :=
  ⟨h.e.below hb, h.n, h.own.kept (.of_below hb), fun p hp => ⟨(h.tb p hp).1.below (hb.mono hN), (h.tb p hp).2⟩⟩
theorem AccM.off {F F' : Nat → Prop} {N b1 : Nat} {aA : Option Addr} {ac : Nat} {ps : List (Inp × Hd)} {w w' : World} (h : AccM F N b1 aA ac ps w) (ho : Off F w w') (hs : ∀ b, F' b → F b ∨ w.heap.size ≤ b) (hN : Below N w w') : AccM F' N b1 aA ac ps w' := by
  have hk : Kept (fun k => (¬ F k ∧ N ≤ k) ∧ k < w.heap.size) w w' := ⟨ho.size, fun k _ hf => ho.block k hf.2 hf.1.1⟩
  have hm : ∀ k, ((¬ F k ∧ N ≤ k) ∧ k < w.heap.size) → ¬ F' k ∧ N ≤ k := fun k hf => ⟨fun hf' => (hs k hf').elim hf.1.1 (fun h => by omega), hf.1.2⟩
  refine ⟨h.e.off ho h.n, fun hf => (hs b1 hf).elim h.n (fun hh => by have := h.e.lt; omega), ?_, fun p hp => ⟨(h.tb p hp).1.below hN, (h.tb p hp).2⟩⟩
  have : OwnF (fun k => (¬ F k ∧ N ≤ k) ∧ k < w.heap.size) w 35 9 (.slice aA ps.length ac) ps.length (rowsV inP ps) := ⟨h.own.1, fun k hk => ⟨h.own.2 k hk, (h.own.1.lt k hk).2⟩⟩
  exact (this.kept hk).mono hm
theorem inp_info : (Tryz.prog.info? 35).map (fun i => (i.zero, i.size, i.bytes)) = some (some (.agg #[.int .i64 0, .int .i64 0, .string ByteArray.empty, .string ByteArray.empty, .string ByteArray.empty, .slice none 0 0, .int .i64 0, .int .i64 0, .bool false]), 9, 112) := by kernel_rfl
set_option maxRecDepth 100000 in
theorem cl26_no (g b1 b2 b3 : Nat) (x : Inp) (A : Option Addr) (n cA : Nat) (k : Int) (hk : k ≠ 0) (w : World) :
    Calls Tryz.prog 26 #[.pointer (some ⟨g, 0, none⟩), inpV x A n cA, .int .i64 k, .pointer (some ⟨b1, 0, none⟩), .pointer (some ⟨b2, 0, none⟩), .pointer (some ⟨b3, 0, none⟩)] w fun e w' => e = .returned (.bool true) ∧ Below w.heap.size w w' := by
  have ek : (k == 0) = false := by simpa using hk
  unfold inpV
  go_enter Tryz.func26, Tryz.ntmps26
  go_wp2
  go_ret
  exact ⟨rfl, (Below.refl _ _).alloc (Nat.le_refl _) _⟩
/-- What the function may write. -/
def Thr (b1 b2 b3 : Nat) (u : Value) (k : Nat) : Prop := k = b1 ∨ k = b2 ∨ k = b3 ∨ u.ownBlock = some k
set_option maxRecDepth 100000 in
set_option maxHeartbeats 16000000 in
theorem cl26_yes {F : Nat → Prop} {g N : Nat} {S : Su} {c : Ce} {w : World} {b1 b2 b3 : Nat} {aA : Option Addr} {ac : Nat} {ps : List (Inp × Hd)} {u2 u3 : Value} (h : CeAt F g S c w) (hok : CeOk c)
    (ha : AccM F N b1 aA ac ps w) (h2 : V1 b2 37 u2 w) (h3 : V1 b3 55 u3 w) (hn2 : ¬ F b2) (hn3 : ¬ F b3) (n12 : b1 ≠ b2) (n13 : b1 ≠ b3) (n23 : b2 ≠ b3) (hN : N ≤ w.heap.size) (hNb : N ≤ b1 ∧ N ≤ b2 ∧ N ≤ b3) (hpl : ps.length ≤ 100)
    (x : Inp) (hd : Hd) (hT : TuN N hd x.tube w) (hB : InB x) :
    Calls Tryz.prog 26 #[.pointer (some ⟨g, 0, none⟩), inpV x hd.A hd.n hd.c, .int .i64 0, .pointer (some ⟨b1, 0, none⟩), .pointer (some ⟨b2, 0, none⟩), .pointer (some ⟨b3, 0, none⟩)] w fun e w' => e = .returned (.bool true) ∧
      (∃ aA' ac', AccM F N b1 aA' ac' (ps ++ [(x, hd)]) w') ∧ (∃ v oh, RefM F b2 b3 v oh c.fl c.ow w') ∧ Off (Thr b1 b2 b3 (.slice aA ps.length ac)) w w' := by
  obtain ⟨y, hM⟩ := h
  have HM := Lib.hid hM
  have HOk := Lib.hid hok
  have hbd : ∀ b, F b → b < w.heap.size := hM.bd
  have HA := Lib.hid ha
  have HV2 := Lib.hid h2
  have HV3 := Lib.hid h3
  have HT := Lib.hid hT
  have HIB := Lib.hid hB
  have HN2 := Lib.hid (And.intro hn2 hn3)
  have hlt1 := ha.e.lt
  have hlt2 := h2.lt
  have hlt3 := h3.lt
  obtain ⟨hdA, hdN, hdC⟩ := hd
  obtain ⟨V, hV⟩ : ∃ V, w.alloc (inpO x hdA hdN hdC) = V := ⟨_, rfl⟩
  have hbV : Below w.heap.size w V := by rw [← hV]; exact (Below.refl _ _).alloc (Nat.le_refl _) _
  have hrV : V.heap[w.heap.size]? = some (inpO x hdA hdN hdC) := by rw [← hV]; exact heap_alloc_new _ _
  have hzV : V.heap.size = w.heap.size + 1 := by rw [← hV, size_al]
  have HBV := Lib.hid hbV
  obtain ⟨m, hm⟩ : ∃ m, ps.length = m := ⟨_, rfl⟩
  have HMl := Lib.hid hm
  have HOwn := Lib.hid (by have h := (ha.own.kept (.of_below hbV)).1; rw [hm] at h; exact h : V.ownsRow 0 35 9 (.slice aA m ac) m (rowsV inP ps))
  have k1 : V.cell? ⟨b1, 0, none⟩ = some (.slice aA m ac) := by rw [← hm]; exact (ha.e.below hbV).cell
  rw [hm] at hpl
  clear hM hok ha h2 h3 hT hB hn2 hn3 hbV
  dsimp only
  rw [hm]
  unfold inpV
  unfold inpO at hV hrV
  clear hm
  obtain ⟨i35, J0, J1, J2, J3⟩ := info_parts inp_info
  have hga : ∀ k, (Value.slice aA m ac).ownBlock = some k → (¬ F k ∧ N ≤ k) ∧ k < w.heap.size ∧ k ≠ b1 ∧ k ≠ b2 ∧ k ≠ b3 := fun k hk => by
    have hk' : (Value.slice aA ps.length ac).ownBlock = some k := by rw [HMl.out]; exact hk
    refine ⟨HA.out.own.2 k hk', (HA.out.own.1.lt k hk').2, fun e => ?_, fun e => ?_, fun e => ?_⟩
    · subst e; exact HA.out.own.other HA.out.e (by decide) hk'
    · subst e; exact HA.out.own.other HV2.out (by decide) hk'
    · subst e; exact HA.out.own.other HV3.out (by decide) hk'
  have HGa := Lib.hid hga
  have HFl := Lib.hid (fun (W : World) (hk : Kept F w W) => Flights_any (HM.out.kept hk) HOk.out)
  have HOw := Lib.hid (fun (W : World) (hk : Kept F w W) => Owners_any (HM.out.kept hk) HOk.out)
  unfold OwCp at HOw
  have tok : True := trivial
  clear hga
  have HE1 : Hid (V1 b1 28 (.slice aA m ac) w) := Lib.hid (by have h := HA.out.e; rw [HMl.out] at h; exact h)
  have HZV := Lib.hid hzV
  clear hzV
  go_enter Tryz.func26, Tryz.ntmps26
  go_upto_region 3 with (first
    | (first | (refine wpList_load_row rfl 35 _ rfl w.heap.size rfl 35 _ (0, 0) _ hrV Tryz.underlying35 rfl (by kernel_rfl) ?_) | (refine wpList_load_row_w 35 _ rfl w.heap.size rfl rfl 35 _ (0, 0) _ hrV Tryz.underlying35 rfl (by kernel_rfl) ?_))
    | (at_builtin; go_loud (refine wpList_append_oneN V _ rfl #[.int .i64 x.kind, .int .i64 x.time, .string x.call, .string x.by_, .string x.to_, .slice hdA hdN hdC, .int .i64 x.wake, .int .i64 x.slot, .bool x.lands] rfl (.tmp 12) (.tmp 14) 28 rfl 0 35 i35 _ 9 112 Tryz.underlying28 J0 J1 J2 J3 rfl (by decide) (.slice aA m ac) m (rowsV inP ps) rfl HOwn.out rfl rfl (by simp [Value.oneCell']) (by omega) (by decide) (by omega) ?_; intro g3 cap3 w3 hown3 hg3 hat3 hlt3; have hz3 := hg3.size; have hzv := HZV.out; have hsame : ∀ k, k < w.heap.size → (Value.slice aA m ac).ownBlock ≠ some k → w3.heap[k]? = w.heap[k]? := fun k hk hne => (hg3.block k (by simp only [size_al]; omega) (fun e => hne e.symm)).trans ((((Below.refl V.heap.size V).alloc (Nat.le_refl _) _).block k (by omega)).trans (HBV.out.block k hk)); have hk3 : Kept F w w3 := ⟨by simp only [size_al] at hz3; omega, fun k hk hf => hsame k hk (fun e => (HGa.out k e).1.1 hf)⟩; have HO3 := Lib.hid hown3; have HG3 := Lib.hid hg3; have HA3 := Lib.hid hat3; have HS3 := Lib.hid hsame; have HK3 := Lib.hid hk3; have HL3 := Lib.hid hlt3; clear hown3 hg3 hat3 hsame hk3 hlt3 hz3 hzv))
    | (go_at_call 14; go_loud (refine (HFl.out w3 HK3.out).mono ?_; rintro e w4 ⟨⟨vA, vn, vc⟩, rfl, hc4, hb4⟩; have HC4 := Lib.hid hc4; have HB4 := Lib.hid hb4; clear hc4 hb4))
    | (go_at_call 20; go_loud (refine (HOw.out w4 ⟨Nat.le_trans HK3.out.1 HB4.out.size, fun k hk hf => (HB4.out.block k (Nat.lt_of_lt_of_le hk HK3.out.1)).trans (HK3.out.2 k hk hf)⟩).mono ?_; rintro e w5 ⟨oA, oc, rfl, ho5, hb5⟩; have HO5 := Lib.hid ho5; have HB5 := Lib.hid (HB4.out.trans (hb5.mono HB4.out.size)); have HB45 := Lib.hid hb5; have q1 : V1 b1 28 (.slice aA m ac) w5 := (HB5.out.block b1 (Nat.lt_of_lt_of_le hlt1 HK3.out.1)).trans ((HS3.out b1 hlt1 (fun e => (HGa.out b1 e).2.2.1 rfl)).trans HE1.out); have q2 : V1 b2 37 u2 w5 := (HB5.out.block b2 (Nat.lt_of_lt_of_le hlt2 HK3.out.1)).trans ((HS3.out b2 hlt2 (fun e => (HGa.out b2 e).2.2.2.1 rfl)).trans HV2.out); have q3 : V1 b3 55 u3 w5 := (HB5.out.block b3 (Nat.lt_of_lt_of_le hlt3 HK3.out.1)).trans ((HS3.out b3 hlt3 (fun e => (HGa.out b3 e).2.2.2.2 rfl)).trans HV3.out); have k1 := q1.cell; have z1 := q1.frozen; have k2 := q2.cell; have z2 := q2.frozen; have k3 := q3.cell; have z3 := q3.frozen; have Q := Lib.hid (And.intro q1 (And.intro q2 q3)); clear ho5 hb5 q1 q2 q3)))
  obtain ⟨w7, hw7⟩ : ∃ W, (((w5.setCell ⟨b1, 0, none⟩ (.slice (some ⟨g3, 0, none⟩) (m + 1) cap3)).setCell ⟨b2, 0, none⟩ (.slice vA vn vc)).setCell ⟨b3, 0, none⟩ (.slice oA c.ow.length oc)) = W := ⟨_, rfl⟩
  rw [hw7]
  have HW7 := Lib.hid hw7
  clear hw7 k1 z1 k2 z2 k3 z3
  go_wp2_with fail
  go_ret
  obtain ⟨q1, q2, q3⟩ := Q.out
  have hz35 := HB5.out.size
  have hw3 := HK3.out.1
  have r1 : V1 b1 28 (.slice (some ⟨g3, 0, none⟩) (m + 1) cap3) w7 := by rw [← HW7.out]; exact ((q1.set _).other n12 _).other n13 _
  have p2 : V1 b2 37 u2 (w5.setCell ⟨b1, 0, none⟩ (.slice (some ⟨g3, 0, none⟩) (m + 1) cap3)) := q2.other (Ne.symm n12) _
  have r2 : V1 b2 37 (.slice vA vn vc) w7 := by rw [← HW7.out]; exact (p2.set _).other n23 _
  have p3 : V1 b3 55 u3 ((w5.setCell ⟨b1, 0, none⟩ (.slice (some ⟨g3, 0, none⟩) (m + 1) cap3)).setCell ⟨b2, 0, none⟩ (.slice vA vn vc)) := (q3.other (Ne.symm n13) _).other (Ne.symm n23) _
  have r3 : V1 b3 55 (.slice oA c.ow.length oc) w7 := by rw [← HW7.out]; exact p3.set _
  have ho7 : ∀ k, k ≠ b1 → k ≠ b2 → k ≠ b3 → w7.heap[k]? = w5.heap[k]? := fun k h1 h2 h3 => by
    rw [← HW7.out]
    exact (Below.heap_setCell _ _ _ _ h3).trans ((Below.heap_setCell _ _ _ _ h2).trans (Below.heap_setCell _ _ _ _ h1))
  have hz7 : w7.heap.size = w5.heap.size := by rw [← HW7.out]; simp [World.setCell]
  have hos : w7.os = w.os ∧ w7.tape = w.tape ∧ w7.output = w.output := by
    rw [← HW7.out]
    exact ⟨(show w5.os = w.os from HB5.out.os.trans (HG3.out.os.trans HBV.out.os)), (show w5.tape = w.tape from HB5.out.tape.trans (HG3.out.tape.trans HBV.out.tape)), (show w5.output = w.output from HB5.out.output.trans (HG3.out.output.trans HBV.out.output))⟩
  have hfr : ∀ k, k < w.heap.size → ¬ Thr b1 b2 b3 (.slice aA m ac) k → w7.heap[k]? = w.heap[k]? := fun k hk hf =>
    (ho7 k (fun e => hf (.inl e)) (fun e => hf (.inr (.inl e))) (fun e => hf (.inr (.inr (.inl e))))).trans ((HB5.out.block k (by omega)).trans (HS3.out k hk (fun e => hf (.inr (.inr (.inr e))))))
  have hnF : ∀ k, w.heap.size ≤ k → ¬ F k := fun k hk hf => by have := hbd k hf; omega
  have hbelN : Below N w w7 := ⟨hos.1, hos.2.1, hos.2.2, by omega, fun k hk => hfr k (by omega) (fun hf => by
    rcases hf with h | h | h | h
    · omega
    · omega
    · omega
    · have := (HGa.out k h).1.2; omega)⟩
  have hC7 : CpM (fun k => w3.heap.size ≤ k) ⟨vA, vn, vc⟩ c.fl w7 := by
    have h5 : CpM (fun k => w3.heap.size ≤ k) ⟨vA, vn, vc⟩ c.fl w5 := HC4.out.kept (.of_below HB45.out)
    rw [← HW7.out]
    exact (((h5.set (p := ⟨b1, 0, none⟩) q1 (by decide) (by decide) (by decide) _).set (p := ⟨b2, 0, none⟩) p2 (by decide) (by decide) (by decide) _).set (p := ⟨b3, 0, none⟩) p3 (by decide) (by decide) (by decide) _)
  have hO7 : OwnF (fun k => w3.heap.size ≤ k) w7 57 3 (.slice oA c.ow.length oc) c.ow.length (rowsV owV c.ow) := by
    have h5 : OwnF (fun k => w3.heap.size ≤ k) w5 57 3 (.slice oA c.ow.length oc) c.ow.length (rowsV owV c.ow) := HO5.out.mono fun k hk => Nat.le_trans HB4.out.size hk
    exact h5.stay fun k hk => by
      have hk3 : w3.heap.size ≤ k := h5.2 k hk
      exact ho7 k (by omega) (by omega) (by omega)
  have hown : OwnF (fun k => ¬ F k ∧ N ≤ k) w7 35 9 (.slice (some ⟨g3, 0, none⟩) (m + 1) cap3) (m + 1) (rowsV inP (ps ++ [(x, (⟨hdA, hdN, hdC⟩ : Hd))])) := by
    have h3 : OwnF (fun k => ¬ F k ∧ N ≤ k) w3 35 9 (.slice (some ⟨g3, 0, none⟩) (m + 1) cap3) (m + 1) (rowsV inP (ps ++ [(x, (⟨hdA, hdN, hdC⟩ : Hd))])) := by
      refine ⟨?_, fun k hk => ?_⟩
      · have h := HO3.out
        rw [rowsV_snoc]
        exact h
      · have e : g3 = k := by simpa [Value.ownBlock] using hk
        subst e
        rcases HA3.out with h | h
        · exact (HGa.out _ h).1
        · have := HZV.out
          exact ⟨hnF _ (by omega), by omega⟩
    have h5 := h3.kept (.of_below HB5.out)
    rw [← HW7.out]
    exact (((h5.set (p := ⟨b1, 0, none⟩) q1 (by decide) _).set (p := ⟨b2, 0, none⟩) p2 (by decide) _).set (p := ⟨b3, 0, none⟩) p3 (by decide) _)
  have hlen : (ps ++ [(x, (⟨hdA, hdN, hdC⟩ : Hd))]).length = m + 1 := by rw [List.length_append, HMl.out]; rfl
  refine ⟨rfl, ⟨some ⟨g3, 0, none⟩, cap3, ⟨by rw [hlen]; exact r1, HA.out.n, by rw [hlen]; exact hown, fun p hp => ?_⟩⟩, ⟨⟨vA, vn, vc⟩, ⟨oA, c.ow.length, oc⟩, ⟨r2, r3, HN2.out.1, HN2.out.2, n23, hC7.mono fun k hk => hnF k (by omega), rfl, hO7.mono fun k hk => hnF k (by omega)⟩⟩, ⟨hos.1, hos.2.1, hos.2.2, by omega, hfr⟩⟩
  rcases List.mem_append.1 hp with hp | hp
  · exact ⟨(HA.out.tb p hp).1.below hbelN, (HA.out.tb p hp).2⟩
  · rw [List.mem_singleton.1 hp]
    exact ⟨HT.out.below hbelN, HIB.out⟩
end Go.Proofs.YtjmdcpcoliljfaaGreatDoor

/- The second function given to run in CentreRepeats. -/
namespace Go.Proofs.YtjmdcpcoliljfaaGreatDoor
open Go.RowKit

set_option maxRecDepth 100000 in
set_option maxHeartbeats 16000000 in
theorem cl27_less {w : World} {b8 b1 b2 b3 g q m ac : Nat} {aA : Option Addr} (h8 : V1 b8 3 (.int .i64 (q : Int)) w) (h1 : V1 b1 28 (.slice aA m ac) w) (n18 : b1 ≠ b8) (hq : q + 1 < m) (hm : m ≤ 100) (x : Inp) (A : Option Addr) (n cA : Nat) :
    Calls Tryz.prog 27 #[.pointer (some ⟨g, 0, none⟩), inpV x A n cA, .int .i64 0, .pointer (some ⟨b8, 0, none⟩), .pointer (some ⟨b1, 0, none⟩), .pointer (some ⟨b2, 0, none⟩), .pointer (some ⟨b3, 0, none⟩)] w fun e w' => e = .returned (.bool true) ∧ V1 b8 3 (.int .i64 ((q : Int) + 1)) w' ∧ Off (fun k => k = b8) w w' := by
  obtain ⟨V, hV⟩ : ∃ V, w.alloc (inpO x A n cA) = V := ⟨_, rfl⟩
  have hbV : Below w.heap.size w V := by rw [← hV]; exact (Below.refl _ _).alloc (Nat.le_refl _) _
  have HBV := Lib.hid hbV
  have hv8 : V1 b8 3 (.int .i64 (q : Int)) V := h8.below hbV
  have k8 := hv8.cell
  have z8 := hv8.frozen
  have HV8 := Lib.hid hv8
  have HV1 := Lib.hid (h1.below hbV)
  have wq : IntKind.i64.wrap ((q : Int) + 1) = (q : Int) + 1 := IntWalk.i64_in _ (by omega)
  have hlt8 := h8.lt
  unfold inpV
  unfold inpO at hV
  clear h8 h1 hbV hv8
  go_enter Tryz.func27, Tryz.ntmps27
  go_upto_region 2 with (fail)
  obtain ⟨w2, hw2⟩ : ∃ W, V.setCell ⟨b8, 0, none⟩ (.int .i64 ((q : Int) + 1)) = W := ⟨_, rfl⟩
  rw [hw2]
  have hoth : ∀ k, k ≠ b8 → w2.heap[k]? = V.heap[k]? := fun k hk => by rw [← hw2]; exact Below.heap_setCell _ _ _ _ hk
  have hz2 : w2.heap.size = V.heap.size := by rw [← hw2]; simp [World.setCell]
  have hv82 : V1 b8 3 (.int .i64 ((q : Int) + 1)) w2 := by rw [← hw2]; exact HV8.out.set _
  have HOff := Lib.hid (show Off (fun k => k = b8) w w2 by rw [← hw2]; exact ((Off.of_below (F := fun k => k = b8) HBV.out).setCell (p := ⟨b8, 0, none⟩) (.inl rfl) _))
  have HV82 := Lib.hid hv82
  have HV12 := Lib.hid (show V1 b1 28 (.slice aA m ac) w2 from (hoth b1 n18).trans HV1.out)
  clear hw2 k8 z8
  have r8 := cell_regrown HV82.out.cell
  have r1 := cell_regrown HV12.out.cell
  have hlt : decide ((q : Int) + 1 < (m : Int)) = true := decide_eq_true (by omega)
  refine wp_region_quiet_below (by kernel_rfl) (by kernel_rfl) ?_
  repeat (go_big_quiet_step (fail))
  refine wpQuiet_nil ?_
  intro w9 hwz
  have hb9 : Below w2.heap.size w2 w9 := by obtain ⟨⟨dq, osq⟩, rfl⟩ := hwz; exact below_regrown w2 _ _
  clear hwz r8 r1
  go_wp2_with fail
  go_ret
  exact ⟨rfl, HV82.out.below hb9, HOff.out.trans' (Off.of_below (hb9.mono (Nat.le_refl _)))⟩
set_option maxRecDepth 100000 in
set_option maxHeartbeats 16000000 in
theorem cl27_last {F : Nat → Prop} {S : Su} {c : Ce} {w : World} {b8 b1 b2 b3 g q m ac : Nat} {aA : Option Addr} {v oh : Hd} (h : CeAt F g S c w) (hok : CeOk c) (h8 : V1 b8 3 (.int .i64 (q : Int)) w) (h1 : V1 b1 28 (.slice aA m ac) w) (hr : RefM F b2 b3 v oh c.fl c.ow w) (h8F : ¬ F b8) (n18 : b1 ≠ b8) (n28 : b2 ≠ b8) (n38 : b3 ≠ b8) (hq : q + 1 = m) (hm : m ≤ 100) (x : Inp) (A : Option Addr) (n cA : Nat) :
    Calls Tryz.prog 27 #[.pointer (some ⟨g, 0, none⟩), inpV x A n cA, .int .i64 0, .pointer (some ⟨b8, 0, none⟩), .pointer (some ⟨b1, 0, none⟩), .pointer (some ⟨b2, 0, none⟩), .pointer (some ⟨b3, 0, none⟩)] w fun e w' => e = .returned (.bool true) ∧ V1 b8 3 (.int .i64 ((q : Int) + 1)) w' ∧ Off (fun k => k = b8) w w' := by
  obtain ⟨y, hM⟩ := h
  obtain ⟨V, hV⟩ : ∃ V, w.alloc (inpO x A n cA) = V := ⟨_, rfl⟩
  have hbV : Below w.heap.size w V := by rw [← hV]; exact (Below.refl _ _).alloc (Nat.le_refl _) _
  have HBV := Lib.hid hbV
  have hv8 : V1 b8 3 (.int .i64 (q : Int)) V := h8.below hbV
  have k8 := hv8.cell
  have z8 := hv8.frozen
  have HV8 := Lib.hid hv8
  have HV1 := Lib.hid (h1.below hbV)
  have wq : IntKind.i64.wrap ((q : Int) + 1) = (q : Int) + 1 := IntWalk.i64_in _ (by omega)
  have hlt8 := h8.lt
  unfold inpV
  unfold inpO at hV
  have h24 : c.fl.length ≤ 24 := by have := hok.ow.n; have := hok.len; omega
  have HMV := Lib.hid (hM.below hbV)
  have HRV := Lib.hid (hr.below hbV)
  have HOk := Lib.hid hok
  obtain ⟨on, hon⟩ : ∃ on, c.ow.length = on := ⟨_, rfl⟩
  obtain ⟨vA, vn, vc⟩ := v
  obtain ⟨oA, on', oc⟩ := oh
  have e2 : on' = on := by have := hr.on; dsimp only at this; omega
  subst e2
  have HOn := Lib.hid hon
  clear h8 h1 hbV hv8 hM hok hr hon
  go_enter Tryz.func27, Tryz.ntmps27
  go_upto_region 2 with (fail)
  obtain ⟨w2, hw2⟩ : ∃ W, V.setCell ⟨b8, 0, none⟩ (.int .i64 ((q : Int) + 1)) = W := ⟨_, rfl⟩
  rw [hw2]
  have hoth : ∀ k, k ≠ b8 → w2.heap[k]? = V.heap[k]? := fun k hk => by rw [← hw2]; exact Below.heap_setCell _ _ _ _ hk
  have hz2 : w2.heap.size = V.heap.size := by rw [← hw2]; simp [World.setCell]
  have hv82 : V1 b8 3 (.int .i64 ((q : Int) + 1)) w2 := by rw [← hw2]; exact HV8.out.set _
  have HOff := Lib.hid (show Off (fun k => k = b8) w w2 by rw [← hw2]; exact ((Off.of_below (F := fun k => k = b8) HBV.out).setCell (p := ⟨b8, 0, none⟩) (.inl rfl) _))
  have HV82 := Lib.hid hv82
  have HV12 := Lib.hid (show V1 b1 28 (.slice aA m ac) w2 from (hoth b1 n18).trans HV1.out)
  clear k8 z8
  have hM2 : CeM F g S c y w2 := HMV.out.kept ⟨by omega, fun k _ hf => hoth k (fun e => h8F (e ▸ hf))⟩
  have HM2 := Lib.hid hM2
  have HR2 : Hid (RefM F b2 b3 ⟨vA, vn, vc⟩ ⟨oA, on', oc⟩ c.fl c.ow w2) := Lib.hid (by
    have r := HRV.out
    have e : w2 = V.setCell ⟨b8, 0, none⟩ (.int .i64 ((q : Int) + 1)) := hw2.symm
    rw [e]
    exact ⟨r.e1.other n28 _, r.e2.other n38 _, r.n1, r.n2, r.ne, r.cp.set (p := ⟨b8, 0, none⟩) HV8.out (by decide) (by decide) (by decide) _, r.on, r.ow.set (p := ⟨b8, 0, none⟩) HV8.out (by decide) _⟩)
  clear hw2
  have HK := Lib.hid (fun (W : World) (hb : Below w2.heap.size w2 W) => (show W.cell? ⟨b8, 0, none⟩ = some (.int .i64 ((q : Int) + 1)) ∧ W.cell? ⟨b1, 0, none⟩ = some (.slice aA m ac) ∧ W.cell? ⟨b2, 0, none⟩ = some (.slice vA vn vc) ∧ W.cell? ⟨b3, 0, none⟩ = some (.slice oA on' oc) from
    ⟨(HV82.out.below hb).cell, (HV12.out.below hb).cell, (HR2.out.below hb).e1.cell, (HR2.out.below hb).e2.cell⟩))
  have HFl := Lib.hid (fun (W : World) (hb : Below w2.heap.size w2 W) => (Flights_any (HM2.out.below hb) HOk.out).mono fun e w' hh => (show ∃ u : Hd, e = .returned (.slice u.A u.n u.c) ∧ CpM (fun _ => True) u c.fl w' ∧ Below w2.heap.size w2 w' from by
    obtain ⟨u, a1, a2, a3⟩ := hh
    exact ⟨u, a1, a2.mono (fun _ _ => trivial), hb.trans (a3.mono hb.size)⟩))
  have HSm := Lib.hid (fun (W : World) (u : Hd) (hb : Below w2.heap.size w2 W) (hc : CpM (fun _ => True) u c.fl W) => same28_any (HR2.out.below hb).cp hc HOk.out.fl h24)
  have HOw := Lib.hid (fun (W : World) (hb : Below w2.heap.size w2 W) => (Owners_any (HM2.out.below hb) HOk.out).mono fun e w' hh => (show ∃ pA pc, e = .returned (.slice pA on' pc) ∧ OwnF (fun _ => True) w' 57 3 (.slice pA on' pc) on' (rowsV owV c.ow) ∧ Below w2.heap.size w2 w' from by
    obtain ⟨pA, pc, a1, a2, a3⟩ := hh
    rw [HOn.out] at a1 a2
    exact ⟨pA, pc, a1, a2.mono (fun _ _ => trivial), hb.trans (a3.mono hb.size)⟩))
  have HEq := Lib.hid (fun (W : World) (pA : Option Addr) (pc : Nat) (hb : Below w2.heap.size w2 W) (ho : OwnF (fun _ => True) W 57 3 (.slice pA on' pc) on' (rowsV owV c.ow)) => eq29_any oA pA on' oc pc c.ow W (HR2.out.below hb).owa (by have h := ho; rw [← HOn.out] at h ⊢; exact h.owa) (by have := HOk.out.ow.n; have := HOn.out; omega))
  dsimp only at HSm
  have hlt : decide ((q : Int) + 1 < (m : Int)) = false := decide_eq_false (by omega)
  refine wp_region_held_drew (S := (fun W => W.cell? ⟨b8, 0, none⟩ = some (.int .i64 ((q : Int) + 1)) ∧ W.cell? ⟨b1, 0, none⟩ = some (.slice aA m ac) ∧ W.cell? ⟨b2, 0, none⟩ = some (.slice vA vn vc) ∧ W.cell? ⟨b3, 0, none⟩ = some (.slice oA on' oc))) (by kernel_rfl) (HK.out w2.drew (Below.refl _ _).drew) (fun hHeld => ?_)
  refine wpAnyH_take (i := 0) (oi := ⟨some 13, _, _, _, _, _⟩) (v := ?hu0) rfl (by kernel_rfl) (by kernel_rfl) (by kernel_rfl) (fun _ _ _ h => h) (Or.inl ⟨by rfl, ?hp0⟩) hHeld ?hq0
  case hp0 => (intro W hSw; (try dsimp only at hSw); (try obtain ⟨s1, s2, s3, s4⟩ := hSw); go_simp; try with_reducible rfl)
  try simp only [Act.put, List.setIfInBounds_toArray, List.set_cons_zero, List.set_cons_succ]
  refine wpAnyH_take (i := 1) (oi := ⟨some 14, _, _, _, _, _⟩) (v := ?hu1) rfl (by kernel_rfl) (by kernel_rfl) (by kernel_rfl) (fun _ _ _ h => h) (Or.inl ⟨by rfl, ?hp1⟩) hHeld ?hq1
  case hp1 => (intro W hSw; (try dsimp only at hSw); (try obtain ⟨s1, s2, s3, s4⟩ := hSw); go_simp; try with_reducible rfl)
  try simp only [Act.put, List.setIfInBounds_toArray, List.set_cons_zero, List.set_cons_succ]
  refine wpAnyH_take (i := 2) (oi := ⟨some 15, _, _, _, _, _⟩) (v := ?hu2) rfl (by kernel_rfl) (by kernel_rfl) (by kernel_rfl) (fun _ _ _ h => h) (Or.inl ⟨by rfl, ?hp2⟩) hHeld ?hq2
  case hp2 => (intro W hSw; (try dsimp only at hSw); (try obtain ⟨s1, s2, s3, s4⟩ := hSw); go_simp; try with_reducible rfl)
  try simp only [Act.put, List.setIfInBounds_toArray, List.set_cons_zero, List.set_cons_succ]
  refine wpAnyH_take (i := 3) (oi := ⟨some 16, _, _, _, _, _⟩) (v := ?hu3) rfl (by kernel_rfl) (by kernel_rfl) (by kernel_rfl) (fun _ _ _ h => h) (Or.inl ⟨by rfl, ?hp3⟩) hHeld ?hq3
  case hp3 => (intro W hSw; (try dsimp only at hSw); (try obtain ⟨s1, s2, s3, s4⟩ := hSw); go_simp; try with_reducible rfl)
  try simp only [Act.put, List.setIfInBounds_toArray, List.set_cons_zero, List.set_cons_succ]
  refine wpAnyH_take (i := 4) (oi := ⟨some 17, _, _, _, _, _⟩) (v := ?hu4) rfl (by kernel_rfl) (by kernel_rfl) (by kernel_rfl) (fun _ _ _ h => h) (Or.inl ⟨by rfl, ?hp4⟩) hHeld ?hq4
  case hp4 => (intro W hSw; (try dsimp only at hSw); (try obtain ⟨s1, s2, s3, s4⟩ := hSw); go_simp; try with_reducible rfl)
  try simp only [Act.put, List.setIfInBounds_toArray, List.set_cons_zero, List.set_cons_succ]
  refine wpAnyH_take (i := 5) (oi := ⟨some 18, _, _, _, _, _⟩) (v := ?hu5) rfl (by kernel_rfl) (by kernel_rfl) (by kernel_rfl) (fun _ _ _ h => h) (Or.inl ⟨by rfl, ?hp5⟩) hHeld ?hq5
  case hp5 => (intro W hSw; (try dsimp only at hSw); (try obtain ⟨s1, s2, s3, s4⟩ := hSw); go_simp; try with_reducible rfl)
  try simp only [Act.put, List.setIfInBounds_toArray, List.set_cons_zero, List.set_cons_succ]
  refine wpAnyH_take (i := 6) (oi := ⟨some 19, _, _, _, _, _⟩) (v := ?hu6) rfl (by kernel_rfl) (by kernel_rfl) (by kernel_rfl) (fun _ _ _ h => h) (Or.inl ⟨by rfl, ?hp6⟩) hHeld ?hq6
  case hp6 => (intro W hSw; (try dsimp only at hSw); (try obtain ⟨s1, s2, s3, s4⟩ := hSw); go_simp; try with_reducible rfl)
  try simp only [Act.put, List.setIfInBounds_toArray, List.set_cons_zero, List.set_cons_succ]
  refine wpAnyH_take (i := 7) (oi := ⟨some 20, _, _, _, _, _⟩) (v := ?hu7) rfl (by kernel_rfl) (by kernel_rfl) (by kernel_rfl) (fun _ _ _ h => h) (Or.inl ⟨by rfl, ?hp7⟩) hHeld ?hq7
  case hp7 => (intro W hSw; (try dsimp only at hSw); (try obtain ⟨s1, s2, s3, s4⟩ := hSw); go_simp; try with_reducible rfl)
  try simp only [Act.put, List.setIfInBounds_toArray, List.set_cons_zero, List.set_cons_succ]
  refine wpAnyH_take (i := 8) (oi := ⟨some 21, _, _, _, _, _⟩) (v := ?hu8) rfl (by kernel_rfl) (by kernel_rfl) (by kernel_rfl) (fun _ _ _ h => h) (Or.inl ⟨by rfl, ?hp8⟩) hHeld ?hq8
  case hp8 => (intro W hSw; (try dsimp only at hSw); (try obtain ⟨s1, s2, s3, s4⟩ := hSw); go_simp; try with_reducible rfl)
  try simp only [Act.put, List.setIfInBounds_toArray, List.set_cons_zero, List.set_cons_succ]
  refine wpAnyH_take (i := 9) (oi := ⟨some 22, _, _, _, _, _⟩) (v := ?hu9) rfl (by kernel_rfl) (by kernel_rfl) (by kernel_rfl) (fun _ _ _ h => h) (Or.inl ⟨by rfl, ?hp9⟩) hHeld ?hq9
  case hp9 => (intro W hSw; (try dsimp only at hSw); (try obtain ⟨s1, s2, s3, s4⟩ := hSw); go_simp; try with_reducible rfl)
  try simp only [Act.put, List.setIfInBounds_toArray, List.set_cons_zero, List.set_cons_succ]
  refine wpAnyH_ready (rs := [10]) (by kernel_rfl) (by simp) ?_
  refine (AllReadyH.cons (o := ⟨some 23, _, _, _, _, _⟩) rfl (fun K hK => ?_) AllReadyH.nil)
  go_simp
  go_at_call 14
  (with_reducible refine (HFl.out w2.drew (Below.refl _ _).drew).mono ?_)
  rintro e w3 ⟨⟨uA, un, uc⟩, rfl, hc3, hb3⟩
  have HB3 := Lib.hid hb3
  have HC3 := Lib.hid hc3
  clear hb3 hc3
  refine hK.out _ _ (HK.out w3 HB3.out) (fun hHeld => ?_)
  clear hK K
  try simp only [Act.put, List.setIfInBounds_toArray, List.set_cons_zero, List.set_cons_succ]
  refine wpAnyH_ready (rs := [11]) (by kernel_rfl) (by simp) ?_
  refine (AllReadyH.cons (o := ⟨some 24, _, _, _, _, _⟩) rfl (fun K hK => ?_) AllReadyH.nil)
  go_simp
  go_at_call 28
  (with_reducible refine (HSm.out w3 ⟨uA, un, uc⟩ HB3.out HC3.out).mono ?_)
  rintro e w4 ⟨rfl, hb4⟩
  have HB4 := Lib.hid (HB3.out.trans (hb4.mono HB3.out.size))
  clear hb4
  refine hK.out _ _ (HK.out w4 HB4.out) (fun hHeld => ?_)
  clear hK K
  try simp only [Act.put, List.setIfInBounds_toArray, List.set_cons_zero, List.set_cons_succ]
  refine wpAnyH_take (i := 12) (oi := ⟨some 25, _, _, _, _, _⟩) (v := ?hu12) rfl (by kernel_rfl) (by kernel_rfl) (by kernel_rfl) (fun _ _ _ h => h) (Or.inl ⟨by rfl, ?hp12⟩) hHeld ?hq12
  case hp12 => (intro W hSw; (try dsimp only at hSw); (try obtain ⟨s1, s2, s3, s4⟩ := hSw); go_simp; try with_reducible rfl)
  try simp only [Act.put, List.setIfInBounds_toArray, List.set_cons_zero, List.set_cons_succ]
  refine wpAnyH_take (i := 13) (oi := ⟨some 26, _, _, _, _, _⟩) (v := ?hu13) rfl (by kernel_rfl) (by kernel_rfl) (by kernel_rfl) (fun _ _ _ h => h) (Or.inl ⟨by rfl, ?hp13⟩) hHeld ?hq13
  case hp13 => (intro W hSw; (try dsimp only at hSw); (try obtain ⟨s1, s2, s3, s4⟩ := hSw); go_simp; try with_reducible rfl)
  try simp only [Act.put, List.setIfInBounds_toArray, List.set_cons_zero, List.set_cons_succ]
  refine wpAnyH_take (i := 14) (oi := ⟨some 27, _, _, _, _, _⟩) (v := ?hu14) rfl (by kernel_rfl) (by kernel_rfl) (by kernel_rfl) (fun _ _ _ h => h) (Or.inl ⟨by rfl, ?hp14⟩) hHeld ?hq14
  case hp14 => (intro W hSw; (try dsimp only at hSw); (try obtain ⟨s1, s2, s3, s4⟩ := hSw); go_simp; try with_reducible rfl)
  try simp only [Act.put, List.setIfInBounds_toArray, List.set_cons_zero, List.set_cons_succ]
  refine wpAnyH_ready (rs := [15]) (by kernel_rfl) (by simp) ?_
  refine (AllReadyH.cons (o := ⟨some 28, _, _, _, _, _⟩) rfl (fun K hK => ?_) AllReadyH.nil)
  go_simp
  go_at_call 20
  (with_reducible refine (HOw.out w4 HB4.out).mono ?_)
  rintro e w5 ⟨pA, pc, rfl, ho5, hb5⟩
  have HB5 := Lib.hid hb5
  have HO5 := Lib.hid ho5
  clear hb5 ho5
  refine hK.out _ _ (HK.out w5 HB5.out) (fun hHeld => ?_)
  clear hK K
  try simp only [Act.put, List.setIfInBounds_toArray, List.set_cons_zero, List.set_cons_succ]
  refine wpAnyH_ready (rs := [16]) (by kernel_rfl) (by simp) ?_
  refine (AllReadyH.cons (o := ⟨some 29, _, _, _, _, _⟩) rfl (fun K hK => ?_) AllReadyH.nil)
  go_simp
  go_at_call 29
  (with_reducible refine (HEq.out w5 pA pc HB5.out HO5.out).mono ?_)
  rintro e w6 ⟨rfl, hb6⟩
  have HB6 := Lib.hid (HB5.out.trans (hb6.mono HB5.out.size))
  clear hb6
  refine hK.out _ _ (HK.out w6 HB6.out) (fun hHeld => ?_)
  clear hK K
  try simp only [Act.put, List.setIfInBounds_toArray, List.set_cons_zero, List.set_cons_succ]
  refine wpAnyH_take (i := 17) (oi := ⟨some 30, _, _, _, _, _⟩) (v := ?hu17) rfl (by kernel_rfl) (by kernel_rfl) (by kernel_rfl) (fun _ _ _ h => h) (Or.inl ⟨by rfl, ?hp17⟩) hHeld ?hq17
  case hp17 => (intro W hSw; (try dsimp only at hSw); (try obtain ⟨s1, s2, s3, s4⟩ := hSw); go_simp; try with_reducible rfl)
  try simp only [Act.put, List.setIfInBounds_toArray, List.set_cons_zero, List.set_cons_succ]
  refine wpAnyH_take (i := 18) (oi := ⟨some 31, _, _, _, _, _⟩) (v := ?hu18) rfl (by kernel_rfl) (by kernel_rfl) (by kernel_rfl) (fun _ _ _ h => h) (Or.inl ⟨by rfl, ?hp18⟩) hHeld ?hq18
  case hp18 => (intro W hSw; (try dsimp only at hSw); (try obtain ⟨s1, s2, s3, s4⟩ := hSw); go_simp; try with_reducible rfl)
  try simp only [Act.put, List.setIfInBounds_toArray, List.set_cons_zero, List.set_cons_succ]
  refine wpAnyH_take (i := 19) (oi := ⟨some 32, _, _, _, _, _⟩) (v := ?hu19) rfl (by kernel_rfl) (by kernel_rfl) (by kernel_rfl) (fun _ _ _ h => h) (Or.inl ⟨by rfl, ?hp19⟩) hHeld ?hq19
  case hp19 => (intro W hSw; (try dsimp only at hSw); (try obtain ⟨s1, s2, s3, s4⟩ := hSw); go_simp; try with_reducible rfl)
  try simp only [Act.put, List.setIfInBounds_toArray, List.set_cons_zero, List.set_cons_succ]
  refine wpAnyH_take (i := 20) (oi := ⟨some 10, _, _, _, _, _⟩) (v := ?hu20) rfl (by kernel_rfl) (by kernel_rfl) (by kernel_rfl) (fun _ _ _ h => h) (Or.inl ⟨by rfl, ?hp20⟩) hHeld ?hq20
  case hp20 => (intro W hSw; (try dsimp only at hSw); (try obtain ⟨s1, s2, s3, s4⟩ := hSw); go_simp; try with_reducible rfl)
  try simp only [Act.put, List.setIfInBounds_toArray, List.set_cons_zero, List.set_cons_succ]
  refine wpAnyH_done (by kernel_rfl) ?_ _
  go_wp2_with fail
  go_ret
  exact ⟨rfl, HV82.out.below HB6.out, HOff.out.trans' (Off.of_below HB6.out)⟩
end Go.Proofs.YtjmdcpcoliljfaaGreatDoor

