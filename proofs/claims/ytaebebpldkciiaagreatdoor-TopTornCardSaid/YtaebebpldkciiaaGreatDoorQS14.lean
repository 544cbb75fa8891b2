/- Package season: Run. -/
import Derived.Test.YtaebebpldkciiaaGreatDoorQS13
import Derived.Test.YtaebebpldkciiaaGreatDoorQB2
namespace Go.Proofs.YtaebebpldkciiaaGreatDoor
open Go.RowKit
def repA (s : Se) : Value := .agg (repV s.s s.fl s.a s.r)
def zeroS : Value := .agg (repV 0 0 0 0)
def RunS (S : Su) (l : List Inp) (w : World) (e : Ending) (w' : World) : Prop :=
 (e = if suE S = 0 then .returned (.tuple #[repA (runP kindsS S l), .int .i64 0]) else .returned (.tuple #[zeroS, .int .i64 (suE S)])) ∧ Below w.heap.size w w'
structure SeM (S : Su) (s : Se) (N B R Z g : Nat) (F : Nat → Prop) (w W : World) : Prop where
 ce : CeAt F g S s.c W
 low : ∀ b, F b → N ≤ b
 nb : ¬ F B
 nr : ¬ F R
 nz : ¬ F Z
 su : SuAt S B W
 rep : W.heap[R]? = some (.cells (repV s.s s.fl s.a s.r) 32 (0, 0))
 z : W.heap[Z]? = some (.cells #[.int .i64 0, .int .i64 0, .int .i64 0, .int .i64 0, .int .i64 0, .int .i64 0, .int .i64 0, .int .i64 0] 32 (0, 0))
 b : Below N w W
section
variable {S : Su} {s : Se} {N B R Z g : Nat} {F : Nat → Prop} {w W W' : World}
theorem SeM.below (h : SeM S s N B R Z g F w W) (hb : Below W.heap.size W W') (hN : N ≤ W.heap.size) : SeM S s N B R Z g F w W' :=
 ⟨h.ce.elim fun y hy => ⟨y, hy.below hb⟩, h.low, h.nb, h.nr, h.nz, (hb.block B (Array.getElem?_eq_some_iff.1 h.su).1).trans h.su, (hb.block R (Array.getElem?_eq_some_iff.1 h.rep).1).trans h.rep, (hb.block Z (Array.getElem?_eq_some_iff.1 h.z).1).trans h.z, h.b.trans (hb.mono hN)⟩
theorem SeM.wrote (h : SeM S s N B R Z g F w W) (ho : Off (fun b => b = R) W W') {s' : Se} (hc : s'.c = s.c) (hr : W'.heap[R]? = some (.cells (repV s'.s s'.fl s'.a s'.r) 32 (0, 0))) (hBR : B ≠ R) (hZR : Z ≠ R) (hNR : N ≤ R) (hN : N ≤ W.heap.size) : SeM S s' N B R Z g F w W' :=
 ⟨by rw [hc]; exact h.ce.elim fun y hy => ⟨y, hy.kept (.of_off ho (fun k hF e => h.nr (by rw [← e]; exact hF)))⟩, h.low, h.nb, h.nr, h.nz, (ho.block B (Array.getElem?_eq_some_iff.1 h.su).1 hBR).trans h.su, hr, (ho.block Z (Array.getElem?_eq_some_iff.1 h.z).1 hZR).trans h.z, h.b.trans (ho.below (fun b e => by rw [e]; exact hNR) hN)⟩
theorem SeM.step (h : SeM S s N B R Z g F w W) {F' : Nat → Prop} {c' : Ce} (ho : Off F W W') (hc : CeAt F' g S c' W') (hs : ∀ b, F' b → F b ∨ W.heap.size ≤ b) (hN : N ≤ W.heap.size) : SeM S { s with c := c' } N B R Z g F' w W' := by
 have hB := (Array.getElem?_eq_some_iff.1 h.su).1
 have hR := (Array.getElem?_eq_some_iff.1 h.rep).1
 have hZ := (Array.getElem?_eq_some_iff.1 h.z).1
 exact ⟨hc, fun b hb => (hs b hb).elim (h.low b) (fun k => by omega), fun hb => (hs _ hb).elim h.nb (fun k => by omega), fun hb => (hs _ hb).elim h.nr (fun k => by omega), fun hb => (hs _ hb).elim h.nz (fun k => by omega),
  (ho.block B hB h.nb).trans h.su, (ho.block R hR h.nr).trans h.rep, (ho.block Z hZ h.nz).trans h.z, h.b.trans (ho.below h.low hN)⟩
theorem off_cell (W : World) (R i : Nat) (u : Value) : Off (fun b => b = R) W (W.setCell ⟨R, i, none⟩ u) := ⟨rfl, rfl, rfl, by simp [World.setCell], fun k _ hk => Below.heap_setCell _ _ _ _ hk⟩
end
theorem set8 {W : World} {b : Nat} {u0 u1 u2 u3 u4 u5 u6 u7 : Value} (h : W.heap[b]? = some (.cells #[u0, u1, u2, u3, u4, u5, u6, u7] 32 (0, 0))) (v0 v1 v2 v3 v4 v5 v6 v7 : Value) : ((((((((W.setCell ⟨b, 0, none⟩ v0).setCell ⟨b, 1, none⟩ v1).setCell ⟨b, 2, none⟩ v2).setCell ⟨b, 3, none⟩ v3).setCell ⟨b, 4, none⟩ v4).setCell ⟨b, 5, none⟩ v5).setCell ⟨b, 6, none⟩ v6).setCell ⟨b, 7, none⟩ v7).heap[b]? = some (.cells #[v0, v1, v2, v3, v4, v5, v6, v7] 32 (0, 0)) := by
 have r0 := heap_setCell_same (W) b 0 _ 32 v0 h
 obtain ⟨W0, hW0⟩ : ∃ X, (W).setCell ⟨b, 0, none⟩ v0 = X := ⟨_, rfl⟩
 rw [hW0] at r0 ⊢
 replace r0 : W0.heap[b]? = some (.cells #[v0, u1, u2, u3, u4, u5, u6, u7] 32 (0, 0)) := r0
 clear hW0
 have r1 := heap_setCell_same (W0) b 1 _ 32 v1 r0
 obtain ⟨W1, hW1⟩ : ∃ X, (W0).setCell ⟨b, 1, none⟩ v1 = X := ⟨_, rfl⟩
 rw [hW1] at r1 ⊢
 replace r1 : W1.heap[b]? = some (.cells #[v0, v1, u2, u3, u4, u5, u6, u7] 32 (0, 0)) := r1
 clear hW1
 have r2 := heap_setCell_same (W1) b 2 _ 32 v2 r1
 obtain ⟨W2, hW2⟩ : ∃ X, (W1).setCell ⟨b, 2, none⟩ v2 = X := ⟨_, rfl⟩
 rw [hW2] at r2 ⊢
 replace r2 : W2.heap[b]? = some (.cells #[v0, v1, v2, u3, u4, u5, u6, u7] 32 (0, 0)) := r2
 clear hW2
 have r3 := heap_setCell_same (W2) b 3 _ 32 v3 r2
 obtain ⟨W3, hW3⟩ : ∃ X, (W2).setCell ⟨b, 3, none⟩ v3 = X := ⟨_, rfl⟩
 rw [hW3] at r3 ⊢
 replace r3 : W3.heap[b]? = some (.cells #[v0, v1, v2, v3, u4, u5, u6, u7] 32 (0, 0)) := r3
 clear hW3
 have r4 := heap_setCell_same (W3) b 4 _ 32 v4 r3
 obtain ⟨W4, hW4⟩ : ∃ X, (W3).setCell ⟨b, 4, none⟩ v4 = X := ⟨_, rfl⟩
 rw [hW4] at r4 ⊢
 replace r4 : W4.heap[b]? = some (.cells #[v0, v1, v2, v3, v4, u5, u6, u7] 32 (0, 0)) := r4
 clear hW4
 have r5 := heap_setCell_same (W4) b 5 _ 32 v5 r4
 obtain ⟨W5, hW5⟩ : ∃ X, (W4).setCell ⟨b, 5, none⟩ v5 = X := ⟨_, rfl⟩
 rw [hW5] at r5 ⊢
 replace r5 : W5.heap[b]? = some (.cells #[v0, v1, v2, v3, v4, v5, u6, u7] 32 (0, 0)) := r5
 clear hW5
 have r6 := heap_setCell_same (W5) b 6 _ 32 v6 r5
 obtain ⟨W6, hW6⟩ : ∃ X, (W5).setCell ⟨b, 6, none⟩ v6 = X := ⟨_, rfl⟩
 rw [hW6] at r6 ⊢
 replace r6 : W6.heap[b]? = some (.cells #[v0, v1, v2, v3, v4, v5, v6, u7] 32 (0, 0)) := r6
 clear hW6
 have r7 := heap_setCell_same (W6) b 7 _ 32 v7 r6
 obtain ⟨W7, hW7⟩ : ∃ X, (W6).setCell ⟨b, 7, none⟩ v7 = X := ⟨_, rfl⟩
 rw [hW7] at r7 ⊢
 replace r7 : W7.heap[b]? = some (.cells #[v0, v1, v2, v3, v4, v5, v6, v7] 32 (0, 0)) := r7
 clear hW7
 exact r7
theorem ret_rep {R : Ending → World → Prop} {W : World} {b : Nat} {x0 x1 x2 x3 x4 x5 x6 x7 k : Int} {A : Act} (hr : W.heap[b]? = some (.cells #[.int .i64 x0, .int .i64 x1, .int .i64 x2, .int .i64 x3, .int .i64 x4, .int .i64 x5, .int .i64 x6, .int .i64 x7] 32 (0, 0))) (h6 : A.tmps.getD 6 undef = .pointer (some ⟨b, 0, none⟩)) (h7 : A.tmps.getD 7 undef = .int .i64 k) (hd : A.defers = [])
  (hR : R (.returned (.tuple #[.agg #[.int .i64 x0, .int .i64 x1, .int .i64 x2, .int .i64 x3, .int .i64 x4, .int .i64 x5, .int .i64 x6, .int .i64 x7], .int .i64 k])) W) : bodyPost Tryz.prog Tryz.f11 R Exit.ret A W := by
 refine bodyPost_ret (v := .tuple #[.agg #[.int .i64 x0, .int .i64 x1, .int .i64 x2, .int .i64 x3, .int .i64 x4, .int .i64 x5, .int .i64 x6, .int .i64 x7], .int .i64 k]) ?_ hd hR
 have r0 := cell_of_row W b 0 _ 32 (0, 0) hr
 have r1 := cell_of_row W b 1 _ 32 (0, 0) hr
 have r2 := cell_of_row W b 2 _ 32 (0, 0) hr
 have r3 := cell_of_row W b 3 _ 32 (0, 0) hr
 have r4 := cell_of_row W b 4 _ 32 (0, 0) hr
 have r5 := cell_of_row W b 5 _ 32 (0, 0) hr
 have r6 := cell_of_row W b 6 _ 32 (0, 0) hr
 have r7 := cell_of_row W b 7 _ 32 (0, 0) hr
 simp at r0 r1 r2 r3 r4 r5 r6 r7
 simp only [Array.getD_eq_getD_getElem?] at h6 h7
 simp [results, Tryz.results11, go_sem, r0, r1, r2, r3, r4, r5, r6, r7, h6, h7]
set_option maxRecDepth 100000 in
set_option maxHeartbeats 32000000 in
theorem Run_any (S : Su) (l : List Inp) (hs : List Hd) (n : Nat) (A : Option Addr) (cA : Nat) (pA : Option Addr) (pn pc : Nat) (pk : Nat → Int) (w : World)
  (hks : KsAt kindsS w) (h0 : 0 < w.heap.size) (hI : InsA w.heap.size A n l hs w) (hn : n ≤ 16) (hP : Sl w w.heap.size 1 pA pn (fun i => [.int .i64 (pk i)])) (hpn : pn ≤ 256) (hT : TabAt w) :
  Calls Tryz.prog 11 #[suA S, .slice A n cA, .slice pA pn pc] w (RunS S l w) := by
 have HN := Lib.hid (fun (W : World) => CNew_any S W)
 obtain ⟨V0, hV0⟩ : ∃ V, w.alloc (suO S) = V := ⟨_, rfl⟩
 obtain ⟨V, hV⟩ : ∃ V, V0.alloc (.cells #[.int .i64 0, .int .i64 0, .int .i64 0, .int .i64 0, .int .i64 0, .int .i64 0, .int .i64 0, .int .i64 0] 32) = V := ⟨_, rfl⟩
 have hz0 : V0.heap.size = w.heap.size + 1 := by rw [← hV0, size_al]
 have hz1 : V.heap.size = w.heap.size + 2 := by rw [← hV, size_al, hz0]
 have hb0 : Below w.heap.size w V0 := by rw [← hV0]; exact (Below.refl _ _).alloc (Nat.le_refl _) _
 have hbV : Below w.heap.size w V := by rw [← hV]; exact hb0.alloc hb0.size _
 have hg0 : SuAt S w.heap.size V := by
  rw [← hV]
  exact (al_old2 V0 _ (by omega)).trans (by rw [← hV0]; exact heap_alloc_new _ _)
 have hg1 : V.heap[V0.heap.size]? = some (.cells #[.int .i64 0, .int .i64 0, .int .i64 0, .int .i64 0, .int .i64 0, .int .i64 0, .int .i64 0, .int .i64 0] 32 (0, 0)) := by
  rw [← hV]; exact heap_alloc_new _ _
 have HG := Lib.hid (And.intro hg0 hg1)
 have HZ0 := Lib.hid hz0
 have HBV := Lib.hid hbV
 have HKS := Lib.hid hks
 have HI := Lib.hid hI
 have HPk := Lib.hid hP
 have HTb := Lib.hid hT
 have H0 := Lib.hid h0
 have hln := hI.ln
 have HLn := Lib.hid hln
 obtain ⟨k0, hk0⟩ : ∃ k, suE S = k := ⟨_, rfl⟩
 have HE := Lib.hid hk0
 unfold NewP at HN
 unfold RunS
 rw [hk0] at HN ⊢
 unfold suO at hV0
 unfold suA setupA at HN ⊢
 clear hks hI hP hT hg0 hg1 hbV hb0 hk0 hln h0 hz0
 by_cases hk : k0 = 0
 ·subst hk
  rw [if_pos rfl]
  have HN' := Lib.hid (fun (W : World) => (HN.out W).mono (by
   rintro e w' (⟨h1, _⟩ | ⟨_, g, h1, ⟨F, h2, h3⟩, h4⟩)
   ·exact absurd rfl h1
   ·exact ⟨g, h1, ⟨F, h2, h3⟩, h4⟩ : ∀ e w', _ → ∃ g, e = .returned (.tuple #[.pointer (some ⟨g, 0, none⟩), .int .i64 0]) ∧ (∃ F : Nat → Prop, CeAt F g S newC w' ∧ ∀ b, F b → W.heap.size < b) ∧ Below W.heap.size W w'))
  clear HN
  have e60 : decide (60 < (n : Int)) = false := decide_eq_false (by omega)
  have e256 : decide (256 < (pn : Int)) = false := decide_eq_false (by omega)
  go_enter Tryz.func11, Tryz.ntmps11
  go_upto_region 6 with (first
   | (first | (refine wpList_load_row rfl 27 _ rfl w.heap.size rfl 27 _ (0, 0) _ HG.out.1 Tryz.underlying27 rfl (by kernel_rfl) ?_) | (refine wpList_load_row_w 27 _ rfl w.heap.size rfl rfl 27 _ (0, 0) _ HG.out.1 Tryz.underlying27 rfl (by kernel_rfl) ?_))
   | (go_at_call 37; go_loud (refine (HN'.out _).mono ?_; rintro e w1 ⟨g, rfl, ⟨F, hc1, hF1⟩, hb1⟩; have HC1 := Lib.hid hc1; have HF1 := Lib.hid hF1; have HB1 := Lib.hid hb1; clear hc1 hF1 hb1)))
  obtain ⟨w2, hw2⟩ : ∃ W, w1.alloc (.cells #[.int .i64 0, .int .i64 0, .int .i64 0, .int .i64 0, .int .i64 0, .int .i64 0, .int .i64 0, .int .i64 0] 32) = W := ⟨_, rfl⟩
  have hb2 : Below w1.heap.size w1 w2 := by rw [← hw2]; exact (Below.refl _ _).alloc (Nat.le_refl _) _
  have hr2 : w2.heap[w1.heap.size]? = some (.cells #[.int .i64 0, .int .i64 0, .int .i64 0, .int .i64 0, .int .i64 0, .int .i64 0, .int .i64 0, .int .i64 0] 32 (0, 0)) := by rw [← hw2]; exact heap_alloc_new _ _
  have hz2 : w2.heap.size = w1.heap.size + 1 := by rw [← hw2, size_al]
  have hz1' : w.heap.size + 2 ≤ w1.heap.size := by have := HB1.out.size; omega
  obtain ⟨R, hRw⟩ : ∃ R, w1.heap.size = R := ⟨_, rfl⟩
  have hM0 : SeM S newS w.heap.size w.heap.size R V0.heap.size g F w w2 := by
   have hbw := HBV.out.trans (HB1.out.mono HBV.out.size)
   refine ⟨HC1.out.elim fun y hy => ⟨y, hy.below hb2⟩, fun b hb => by have := HF1.out b hb; omega, fun hb => by have := HF1.out _ hb; omega, fun hb => ?_, fun hb => by have := HF1.out _ hb; have := HZ0.out; omega, ?_, by rw [← hRw]; exact hr2, (hb2.block V0.heap.size (by rw [HZ0.out]; omega)).trans ((HB1.out.block V0.heap.size (by rw [HZ0.out]; omega)).trans HG.out.2), hbw.trans (hb2.mono hbw.size)⟩
   ·obtain ⟨y, hy⟩ := HC1.out
    have := hy.bd R hb
    omega
   ·exact (hb2.block w.heap.size (by omega)).trans ((HB1.out.block w.heap.size (by omega)).trans HG.out.1)
  have HM0 := Lib.hid hM0
  have hR2 : w.heap.size + 2 ≤ R := by omega
  have hSO : SuOk S := suE_ok HE.out
  have HSO := Lib.hid hSO
  have HZV := Lib.hid hz1
  clear hb2 hr2 hM0 hz1' hSO
  go_upto_region 9 with (fail)
  have HBR : Hid (w.heap.size ≠ R ∧ V0.heap.size ≠ R ∧ w.heap.size ≤ R) := Lib.hid ⟨by omega, by rw [HZ0.out]; omega, by omega⟩
  go_loopw [12, 11] (fun a k wr => ∃ (i : Nat) (s : Se) (F : Nat → Prop), i ≤ 1000 ∧ a = .int .i64 (i : Int) ∧ k = .int .i64 (s.k : Int) ∧ Hid (SeOk S l s) ∧ Hid (seaP kindsS S l (1000 - i) (i : Int) s = runP kindsS S l ∧ s.s = i) ∧ Hid (SeM S s w.heap.size w.heap.size R V0.heap.size g F w wr)) (fun a _ _ => 1000 - (intOf a).toNat)
  case atStart => exact ⟨0, newS, F, by omega, rfl, rfl, Lib.hid (SeOk.new S l), Lib.hid ⟨rfl, rfl⟩, HM0⟩
  case round =>
   obtain ⟨i, s, Fc, hi, rfl, rfl, HOk, HEq, HM⟩ := hrel
   obtain ⟨wo, hwo⟩ : ∃ wo : World, wo = wr := ⟨_, rfl⟩
   subst hwo
   have hNo : w.heap.size ≤ wo.heap.size := HM.out.b.size
   obtain ⟨go, hgo⟩ : ∃ b : Bool, decide (i < 1000 ∧ (s.k < l.length ∨ (i : Int) ≤ endT s.c.fl)) = b := ⟨_, rfl⟩
   have HGo := Lib.hid hgo
   have HFl := Lib.hid (fun (W : World) (hb : Below wo.heap.size wo W) => HM.out.ce.elim fun y hy => Flights_any (hy.below hb) HOk.out.ok)
   have hkn : s.k ≤ n := by have := HOk.out.k; rw [HLn.out] at this; exact this
   have HEnd := Lib.hid (fun (v : Hd) (W : World) (hX : CpM (fun k => wo.heap.size ≤ k) v s.c.fl W) => hX.elim fun xs hX => hX.elim fun ts hX => SEnd_any hX HOk.out.ok.fl (by have := HOk.out.ok.ow.n; have := HOk.out.ok.len; omega))
   obtain ⟨sk, hsk⟩ : ∃ sk, s.k = sk := ⟨_, rfl⟩
   have HSk := Lib.hid hsk
   rw [hsk] at hgo hkn ⊢
   rw [HLn.out] at hgo
   obtain ⟨ed, hed⟩ : ∃ ed, endT s.c.fl = ed := ⟨_, rfl⟩
   have HEd := Lib.hid hed
   rw [hed] at hgo HEnd
   clear hsk hed
   go_upto_region 9 with (fail)
   go_cut [45] from 31 to 86 (fun s45 wx => s45 = .bool go ∧ Below wo.heap.size wo wx)
   case first =>
    by_cases h1 : i < 1000
    ·have h1' : (i : Int) < 1000 := by omega
     by_cases h2 : sk < n
     ·have h2' : (sk : Int) < (n : Int) := by omega
      obtain rfl : go = true := by rw [← hgo]; exact decide_eq_true ⟨h1, .inl h2⟩
      clear hgo
      go_wp2_with fail
      go_meet
      case rel => exact ⟨by simp, Below.refl _ _⟩
     ·have h2' : ¬ (sk : Int) < (n : Int) := by omega
      have hgo' : decide ((i : Int) ≤ ed) = go := by rw [← hgo]; simp [h1, h2]
      clear hgo
      go_wp2_with (first
       | (go_at_call 14; go_loud (refine (HFl.out _ (Below.refl _ _)).mono ?_; rintro e w3 ⟨v, rfl, hX, hb3⟩; have HX := Lib.hid hX; have HB3 := Lib.hid hb3; clear hX hb3))
       | (go_at_call 38; go_loud (refine (HEnd.out v w3 HX.out).mono ?_; rintro e w4 ⟨rfl, hb4⟩; have HB4 := Lib.hid (HB3.out.trans (hb4.mono HB3.out.size)); clear hb4)))
      go_meet
      case rel => exact ⟨by simp, HB4.out⟩
    ·have h1' : ¬ (i : Int) < 1000 := by omega
     obtain rfl : go = false := by rw [← hgo]; simp [h1]
     clear hgo
     go_wp2_with fail
     go_meet
     case rel => exact ⟨by simp, Below.refl _ _⟩
   case rest =>
    obtain ⟨rfl, hbc⟩ := hcut
    have HMc := Lib.hid (HM.out.below hbc hNo)
    have HNc := Lib.hid (Nat.le_trans hNo hbc.size)
    cases go with
    | false =>
     have HRun : Hid (runP kindsS S l = s) := Lib.hid (by
      rw [← HEq.out.1]
      by_cases h1 : i < 1000
      ·rw [show 1000 - i = (1000 - (i + 1)) + 1 by omega]
       show (if _ then _ else _) = _
       have h2 := of_decide_eq_false HGo.out
       rw [if_neg (fun h => h2 ⟨h1, h⟩)]
      ·rw [show 1000 - i = 0 by omega]; rfl)
     have HFlc := Lib.hid (fun (W : World) (hb : Below wc.heap.size wc W) => HMc.out.ce.elim fun y hy => Flights_any (hy.below hb) HOk.out.ok)
     have HLate := Lib.hid (fun (v : Hd) (W : World) (hX : CpM (fun k => wc.heap.size ≤ k) v s.c.fl W) => hX.elim fun xs hX => hX.elim fun ts hX => late_any (S := S) hX HOk.out.ok HOk.out.land)
     unfold suA setupA at HLate
     have HVd := Lib.hid ((Below.refl wc.heap.size wc).drew)
     have HSw := Lib.hid (fun (W : World) (hb : Below wc.heap.size wc W) => (HMc.out.below hb HNc.out).su)
     unfold SuAt suL at HSw
     go_upto_region 18 with (fail)
     refine wp_region_held_drew (S := (fun W => W.heap[w.heap.size]? = some (.cells #[.int .i64 S.lat, .int .i64 S.vert, .int .i64 (S.g 0), .int .i64 (S.g 1), .int .i64 (S.g 2), .int .i64 (S.g 3), .int .i64 (S.g 4), .int .i64 (S.g 5), .int .i64 (S.g 6), .int .i64 (S.g 7), .int .i64 (S.g 8), .int .i64 (S.g 9), .int .i64 (S.g 10), .int .i64 (S.g 11), .int .i64 (S.g 12), .int .i64 (S.g 13), .int .i64 (S.g 14), .int .i64 (S.g 15)] 27 (0, 0)))) (by kernel_rfl) (HSw.out _ HVd.out) (fun hHeld => ?_)
     refine wpAnyH_take (i := 0) (oi := ⟨some 87, _, _, _, _, _⟩) (v := ?h1u) rfl (by kernel_rfl) (by kernel_rfl) (by kernel_rfl) (fun _ _ _ h => h) (Or.inl ⟨by rfl, ?h1p⟩) hHeld ?h1q
     case h1p => (intro W hSw; (try dsimp only at hSw); (try obtain s1 := hSw); go_simp; try with_reducible rfl)
     try simp only [Act.put, zI, zO, zS]
     refine wpAnyH_take (i := 2) (oi := ⟨some 89, _, _, _, _, _⟩) (v := ?h2u) rfl (by kernel_rfl) (by kernel_rfl) (by kernel_rfl) (fun _ _ _ h => h) (Or.inl ⟨by rfl, ?h2p⟩) hHeld ?h2q
     case h2p => (intro W hSw; refine run_exec_row (P := Tryz.prog) 27 (.tmp 3) ?_ w.heap.size ?_ 27 _ (0, 0) _ hSw Tryz.underlying27 rfl (by kernel_rfl) <;> rfl)
     try simp only [Act.put, zI, zO, zS]
     refine wpAnyH_ready (rs := [1]) (by kernel_rfl) (by simp) ?_
     refine (AllReadyH.cons (o := ⟨some 88, _, _, _, _, _⟩) rfl (fun K hK => ?_) AllReadyH.nil)
     go_simp
     go_at_call 14
     (with_reducible refine (HFlc.out _ HVd.out).mono ?_)
     rintro e w3 ⟨v, rfl, hX, hb3⟩
     have HB3 := Lib.hid (HVd.out.trans (hb3.mono HVd.out.size))
     have hX2 : CpM (fun k => wc.heap.size ≤ k) v s.c.fl w3 := hX
     have HX := Lib.hid hX2
     clear hX hX2 hb3
     refine hK.out _ _ (HSw.out _ HB3.out) (fun hHeld => ?_)
     clear hK K
     try simp only [Act.put, zI, zO, zS]
     refine wpAnyH_ready (rs := [3]) (by kernel_rfl) (by simp) ?_
     refine (AllReadyH.cons (o := ⟨some 90, _, _, _, _, _⟩) rfl (fun K hK => ?_) AllReadyH.nil)
     go_simp
     go_at_call 41
     (with_reducible refine (HLate.out v w3 HX.out).mono ?_)
     rintro e w4 ⟨rfl, hb4⟩
     have HB4 := Lib.hid (HB3.out.trans (hb4.mono HB3.out.size))
     have HM4 := Lib.hid (HMc.out.below HB4.out HNc.out)
     have p5 : w4.cell? ⟨R, 5, none⟩ = some (.int .i64 0) := cell_of_row w4 _ 5 _ _ _ HM4.out.rep
     have f5 : w4.frozen? ⟨R, 5, none⟩ = false := frozen_of_row w4 _ 5 _ _ HM4.out.rep
     clear hb4
     refine hK.out _ _ (HSw.out _ HB4.out) (fun hHeld => ?_)
     clear hK K
     try simp only [Act.put, zI, zO, zS]
     refine wpAnyH_take (i := 4) (oi := ⟨some 91, _, _, _, _, _⟩) (v := ?h3u) rfl (by kernel_rfl) (by kernel_rfl) (by kernel_rfl) (fun _ _ _ h => h) (Or.inl ⟨by rfl, ?h3p⟩) hHeld ?h3q
     case h3p => (intro W hSw; (try dsimp only at hSw); (try obtain s1 := hSw); go_simp; try with_reducible rfl)
     try simp only [Act.put, zI, zO, zS]
     refine wpAnyH_ready (rs := [5]) (by kernel_rfl) (by simp) ?_
     refine (AllReadyH.cons (o := ⟨none, _, _, _, _, _⟩) rfl (fun K hK => ?_) AllReadyH.nil)
     go_simp
     have HM5 := Lib.hid (HM4.out.wrote (off_cell w4 R 5 (.int .i64 0)) (s' := s) rfl (heap_setCell_same w4 R 5 _ 32 _ HM4.out.rep) HBR.out.1 HBR.out.2.1 HBR.out.2.2 (Nat.le_trans HNc.out HB4.out.size))
     refine hK.out _ _ (HM5.out.su) (fun hHeld => ?_)
     clear hK K
     try simp only [Act.put, zI, zO, zS]
     refine wpAnyH_done (by kernel_rfl) ?_ _
     obtain ⟨w5, hw5⟩ : ∃ W, w4.setCell ⟨R, 5, none⟩ (.int .i64 0) = W := ⟨_, rfl⟩
     rw [hw5] at HM5 ⊢
     clear hw5
     have r0 : w5.cell? ⟨R, 0, none⟩ = some (.int .i64 (s.s : Int)) := cell_of_row w5 _ 0 _ _ _ HM5.out.rep
     have c0 : w5.cell? ⟨V0.heap.size, 0, none⟩ = some (.int .i64 0) := cell_of_row w5 _ 0 _ _ _ HM5.out.z
     have z0 : w5.frozen? ⟨V0.heap.size, 0, none⟩ = false := frozen_of_row w5 _ 0 _ _ HM5.out.z
     have r1 : w5.cell? ⟨R, 1, none⟩ = some (.int .i64 (s.fl : Int)) := cell_of_row w5 _ 1 _ _ _ HM5.out.rep
     have c1 : w5.cell? ⟨V0.heap.size, 1, none⟩ = some (.int .i64 0) := cell_of_row w5 _ 1 _ _ _ HM5.out.z
     have z1 : w5.frozen? ⟨V0.heap.size, 1, none⟩ = false := frozen_of_row w5 _ 1 _ _ HM5.out.z
     have r2 : w5.cell? ⟨R, 2, none⟩ = some (.int .i64 0) := cell_of_row w5 _ 2 _ _ _ HM5.out.rep
     have c2 : w5.cell? ⟨V0.heap.size, 2, none⟩ = some (.int .i64 0) := cell_of_row w5 _ 2 _ _ _ HM5.out.z
     have z2 : w5.frozen? ⟨V0.heap.size, 2, none⟩ = false := frozen_of_row w5 _ 2 _ _ HM5.out.z
     have r3 : w5.cell? ⟨R, 3, none⟩ = some (.int .i64 0) := cell_of_row w5 _ 3 _ _ _ HM5.out.rep
     have c3 : w5.cell? ⟨V0.heap.size, 3, none⟩ = some (.int .i64 0) := cell_of_row w5 _ 3 _ _ _ HM5.out.z
     have z3 : w5.frozen? ⟨V0.heap.size, 3, none⟩ = false := frozen_of_row w5 _ 3 _ _ HM5.out.z
     have r4 : w5.cell? ⟨R, 4, none⟩ = some (.int .i64 0) := cell_of_row w5 _ 4 _ _ _ HM5.out.rep
     have c4 : w5.cell? ⟨V0.heap.size, 4, none⟩ = some (.int .i64 0) := cell_of_row w5 _ 4 _ _ _ HM5.out.z
     have z4 : w5.frozen? ⟨V0.heap.size, 4, none⟩ = false := frozen_of_row w5 _ 4 _ _ HM5.out.z
     have r5 : w5.cell? ⟨R, 5, none⟩ = some (.int .i64 0) := cell_of_row w5 _ 5 _ _ _ HM5.out.rep
     have c5 : w5.cell? ⟨V0.heap.size, 5, none⟩ = some (.int .i64 0) := cell_of_row w5 _ 5 _ _ _ HM5.out.z
     have z5 : w5.frozen? ⟨V0.heap.size, 5, none⟩ = false := frozen_of_row w5 _ 5 _ _ HM5.out.z
     have r6 : w5.cell? ⟨R, 6, none⟩ = some (.int .i64 (s.a : Int)) := cell_of_row w5 _ 6 _ _ _ HM5.out.rep
     have c6 : w5.cell? ⟨V0.heap.size, 6, none⟩ = some (.int .i64 0) := cell_of_row w5 _ 6 _ _ _ HM5.out.z
     have z6 : w5.frozen? ⟨V0.heap.size, 6, none⟩ = false := frozen_of_row w5 _ 6 _ _ HM5.out.z
     have r7 : w5.cell? ⟨R, 7, none⟩ = some (.int .i64 (s.r : Int)) := cell_of_row w5 _ 7 _ _ _ HM5.out.rep
     have c7 : w5.cell? ⟨V0.heap.size, 7, none⟩ = some (.int .i64 0) := cell_of_row w5 _ 7 _ _ _ HM5.out.z
     have z7 : w5.frozen? ⟨V0.heap.size, 7, none⟩ = false := frozen_of_row w5 _ 7 _ _ HM5.out.z
     clear p5 f5
     go_wp2_with fail
     rw [HRun.out]
     refine ret_rep (b := V0.heap.size) (set8 HM5.out.z _ _ _ _ _ _ _ _) rfl rfl rfl ?_
     refine ⟨rfl, ?_⟩
     have hl : w.heap.size ≤ V0.heap.size := by rw [HZ0.out]; omega
     exact (((((((HM5.out.b.setCell hl _).setCell hl _).setCell hl _).setCell hl _).setCell hl _).setCell hl _).setCell hl _).setCell hl _
    | true =>
     have HGt : Hid (i < 1000 ∧ (s.k < l.length ∨ (i : Int) ≤ endT s.c.fl)) := Lib.hid (of_decide_eq_true HGo.out)
     have hi1 : i < 1000 := HGt.out.1
     have HNx : Hid (seaP kindsS S l (1000 - i) (i : Int) s = seaP kindsS S l (1000 - (i + 1)) ((i : Int) + 1) (secS (i : Int) (feedT kindsS S l (i : Int) s))) := Lib.hid (by
      rw [show 1000 - i = (1000 - (i + 1)) + 1 by omega]
      show (if _ then _ else _) = _
      rw [if_pos HGt.out.2])
     rw [← HSk.out]
     go_wp2_with fail
     go_loopw [11] (fun k wr => ∃ (q : Se) (F : Nat → Prop), k = .int .i64 (q.k : Int) ∧ Hid (SeOk S l q) ∧ Hid (feedT kindsS S l (i : Int) q = feedT kindsS S l (i : Int) s ∧ q.s = i) ∧ Hid (SeM S q w.heap.size w.heap.size R V0.heap.size g F w wr)) (fun k _ => n - (intOf k).toNat)
     case atStart => exact ⟨s, Fc, rfl, HOk, Lib.hid ⟨rfl, HEq.out.2⟩, HMc⟩
     case round =>
      obtain ⟨q, Fq, rfl, HOq, HQe, HMq⟩ := hrel
      obtain ⟨wq, hwq⟩ : ∃ wq : World, wq = wr := ⟨_, rfl⟩
      subst hwq
      have HNq := Lib.hid (HMq.out.b.size)
      have hqn : q.k ≤ n := by have := HOq.out.k; rw [HLn.out] at this; exact this
      have HSec := Lib.hid (HMq.out.ce.elim fun y hy => second_any (rs := q.s) (rn := q.fl) (ra := q.a) (rr := q.r) (pA := pA) (pn := pn) (pc := pc) (pk := pk) hy HOq.out.ok HSO.out HOq.out.safe (i : Int) (by omega) (by omega) (HTb.out.below HMq.out.b) HMq.out.rep ((HPk.out.below HMq.out.b).more HNq.out) (by unfold maxLen; omega))
      unfold suA setupA SecP at HSec
      have HMax : Hid (repV q.s (({ q with fl := max q.fl (seenN q.c.fl (i : Int)) } : Se).fl) q.a q.r = repV q.s (max (q.fl : Int) (seenN q.c.fl (i : Int) : Int)) q.a q.r) := Lib.hid (by
       congr 1
       show ((max q.fl (seenN q.c.fl (i : Int)) : Nat) : Int) = _
       omega)
      by_cases hd : q.k < n ∧ (l[q.k]!).time ≤ (i : Int)
      ·obtain ⟨hd1, hd2⟩ := hd
       have hd1' : (q.k : Int) < (n : Int) := by omega
       have hd0 : (0 : Int) ≤ (q.k : Int) := by omega
       have hkw : IntKind.i64.wrap ((q.k : Int) + 1) = (q.k : Int) + 1 := IntWalk.i64_in _ (by omega)
       have HIq := Lib.hid (HI.out.below HMq.out.b)
       obtain ⟨b, off, hA, hbN, hrow⟩ := HIq.out.row (by omega)
       subst hA
       have hr : ∀ j v, (inV l[q.k]! hs[q.k]!)[j]? = some v → wq.cell? ⟨b, off + q.k * 9 + j, none⟩ = some v := hrow q.k hd1
       have hTq := (HIq.out.tube q.k hd1).tua HNq.out
       have hBx := HIq.out.bd q.k hd1
       have HQk : Hid (q.k < l.length) := Lib.hid (by rw [HLn.out]; exact hd1)
       have HFeed := Lib.hid (feedT_step (ks := kindsS) (S := S) (t := (i : Int)) HQk.out hd2)
       have HOf := Lib.hid (HOq.out.feed HSO.out (by rw [HLn.out]; exact hn) kindsS HQk.out)
       have HFd : Hid (feedS kindsS S l q = { q with c := (stepP kindsS S q.c l[q.k]!).1, k := q.k + 1, a := if (stepP kindsS S q.c l[q.k]!).2 = 0 then q.a + 1 else q.a, r := if (stepP kindsS S q.c l[q.k]!).2 = 0 then q.r else q.r + 1 }) := Lib.hid rfl
       obtain ⟨x, hx⟩ : ∃ x, l[q.k]! = x := ⟨_, rfl⟩
       obtain ⟨⟨tA, tn, tc⟩, hh⟩ : ∃ h, hs[q.k]! = h := ⟨_, rfl⟩
       rw [hx, hh] at hr
       rw [hx] at hd2 hBx HFd
       rw [hx, hh] at hTq
       dsimp only at hTq
       have q0 := hr 0 _ rfl
       have q1 := hr 1 _ rfl
       have q2 := hr 2 _ rfl
       have q3 := hr 3 _ rfl
       have q4 := hr 4 _ rfl
       have q5 := hr 5 _ rfl
       have q6 := hr 6 _ rfl
       have q7 := hr 7 _ rfl
       have q8 := hr 8 _ rfl
       simp only [Nat.add_zero] at q0
       have h20 : q.c.acc < 20 := by have := HOq.out.acc; omega
       have htn : tn ≤ maxLen := by rw [← hTq.1]; exact hBx.tube
       have HSt := Lib.hid (Step_low (N := w.heap.size) (w := wq) HMq.out.ce HMq.out.low H0.out HNq.out HOq.out.ok HSO.out h20 x tA tn tc hTq htn hBx.call hBx.by_ hBx.to_ kindsS (HKS.out.below HMq.out.b H0.out) kindsS_ok)
       obtain ⟨⟨c3, kk⟩, hst⟩ : ∃ r, stepP kindsS S q.c x = r := ⟨_, rfl⟩
       rw [hst] at HSt HFd
       dsimp only at HFd
       unfold inpV StepL at HSt
       have haw : IntKind.i64.wrap ((q.a : Int) + 1) = (q.a : Int) + 1 := IntWalk.i64_in _ (by have := HOq.out.ar; omega)
       have hrw : IntKind.i64.wrap ((q.r : Int) + 1) = (q.r : Int) + 1 := IntWalk.i64_in _ (by have := HOq.out.ar; omega)
       clear hr hrow hTq hBx h20 htn hst hx hh
       by_cases hkk : kk = 0
       ·obtain rfl : kk = 0 := hkk
        rw [if_pos rfl, if_pos rfl] at HFd
        have tok : True := trivial
        go_upto_region 14 with (go_at_call 39; go_loud (refine HSt.out.mono ?_; rintro e w5 ⟨⟨rfl, hb5, _⟩, hof, F5, hc5, hs5⟩; have HM5 := Lib.hid (HMq.out.step hof hc5 hs5 HNq.out); have HN5 := Lib.hid (Nat.le_trans HNq.out hof.size); clear hb5 hof hc5 hs5))
        have p6 : w5.cell? ⟨R, 6, none⟩ = some (.int .i64 (q.a : Int)) := cell_of_row w5 _ 6 _ _ _ HM5.out.rep
        have f6 : w5.frozen? ⟨R, 6, none⟩ = false := frozen_of_row w5 _ 6 _ _ HM5.out.rep
        have HM6 := Lib.hid (HM5.out.wrote (off_cell w5 R 6 (.int .i64 ((q.a : Int) + 1))) (s' := feedS kindsS S l q) (by rw [HFd.out]) (by rw [HFd.out]; exact heap_setCell_same w5 R 6 _ 32 _ HM5.out.rep) HBR.out.1 HBR.out.2.1 HBR.out.2.2 HN5.out)
        go_wp2_with fail
        go_roundw
        case rel => exact ⟨feedS kindsS S l q, F5, by rw [HFd.out]; rfl, HOf, Lib.hid ⟨by rw [← HFeed.out]; exact HQe.out.1, by rw [HFd.out]; exact HQe.out.2⟩, HM6⟩
        case measure => simp [intOf]; omega
       ·have ek : (kk == 0) = false := by simp [hkk]
        rw [if_neg hkk, if_neg hkk] at HFd
        clear hkk
        have tok : True := trivial
        go_upto_region 15 with (go_at_call 39; go_loud (refine HSt.out.mono ?_; rintro e w5 ⟨⟨rfl, hb5, _⟩, hof, F5, hc5, hs5⟩; have HM5 := Lib.hid (HMq.out.step hof hc5 hs5 HNq.out); have HN5 := Lib.hid (Nat.le_trans HNq.out hof.size); clear hb5 hof hc5 hs5))
        have p6 : w5.cell? ⟨R, 7, none⟩ = some (.int .i64 (q.r : Int)) := cell_of_row w5 _ 7 _ _ _ HM5.out.rep
        have f6 : w5.frozen? ⟨R, 7, none⟩ = false := frozen_of_row w5 _ 7 _ _ HM5.out.rep
        have HM6 := Lib.hid (HM5.out.wrote (off_cell w5 R 7 (.int .i64 ((q.r : Int) + 1))) (s' := feedS kindsS S l q) (by rw [HFd.out]) (by rw [HFd.out]; exact heap_setCell_same w5 R 7 _ 32 _ HM5.out.rep) HBR.out.1 HBR.out.2.1 HBR.out.2.2 HN5.out)
        go_wp2_with fail
        go_roundw
        case rel => exact ⟨feedS kindsS S l q, F5, by rw [HFd.out]; rfl, HOf, Lib.hid ⟨by rw [← HFeed.out]; exact HQe.out.1, by rw [HFd.out]; exact HQe.out.2⟩, HM6⟩
        case measure => simp [intOf]; omega
      ·have HNext : Hid (seaP kindsS S l (1000 - (i + 1)) (((i + 1 : Nat) : Int)) (secS (i : Int) q) = runP kindsS S l ∧ (secS (i : Int) q).s = i + 1) := Lib.hid (by
        have hq : feedT kindsS S l (i : Int) q = q := feedN_no (by rw [HLn.out]; exact hd) _
        refine ⟨?_, by show q.s + 1 = i + 1; rw [HQe.out.2]⟩
        rw [← HEq.out.1, HNx.out, ← HQe.out.1, hq]
        rfl)
       by_cases hd1 : q.k < n
       ·have hd1' : (q.k : Int) < (n : Int) := by omega
        have hd0 : (0 : Int) ≤ (q.k : Int) := by omega
        have hd2 : ¬ (l[q.k]!).time ≤ (i : Int) := fun h => hd ⟨hd1, h⟩
        have HIq := Lib.hid (HI.out.below HMq.out.b)
        obtain ⟨b, off, hA, hbN, hrow⟩ := HIq.out.row (by omega)
        subst hA
        have hr : ∀ j v, (inV l[q.k]! hs[q.k]!)[j]? = some v → wq.cell? ⟨b, off + q.k * 9 + j, none⟩ = some v := hrow q.k hd1
        have q1 := hr 1 _ rfl
        have hd3 : decide ((l[q.k]!).time ≤ (i : Int)) = false := decide_eq_false hd2
        generalize (l[q.k]!).time = lt at q1 hd3
        clear hr hrow hd hd2
        go_upto_region 17 with (first
         | (first | (refine wpList_load_row rfl 27 _ rfl w.heap.size rfl 27 _ (0, 0) _ HMq.out.su Tryz.underlying27 rfl (by kernel_rfl) ?_) | (refine wpList_load_row_w 27 _ rfl w.heap.size rfl rfl 27 _ (0, 0) _ HMq.out.su Tryz.underlying27 rfl (by kernel_rfl) ?_))
         | (go_at_call 40; go_loud (refine HSec.out.mono ?_; rintro e w5 ⟨rfl, hof, hr5⟩; have HM5 := Lib.hid (HMq.out.wrote hof (s' := { q with fl := max q.fl (seenN q.c.fl (i : Int)) }) rfl (by rw [HMax.out]; exact hr5) HBR.out.1 HBR.out.2.1 HBR.out.2.2 HNq.out); have HN5 := Lib.hid (Nat.le_trans HNq.out hof.size); clear hof hr5)))
        have p0 : w5.cell? ⟨R, 0, none⟩ = some (.int .i64 (q.s : Int)) := cell_of_row w5 _ 0 _ _ _ HM5.out.rep
        have f0 : w5.frozen? ⟨R, 0, none⟩ = false := frozen_of_row w5 _ 0 _ _ HM5.out.rep
        have hsw : IntKind.i64.wrap ((q.s : Int) + 1) = (q.s : Int) + 1 := IntWalk.i64_in _ (by have := HQe.out.2; omega)
        have hiw : IntKind.i64.wrap ((i : Int) + 1) = (i : Int) + 1 := IntWalk.i64_in _ (by omega)
        have HM6 := Lib.hid (HM5.out.wrote (off_cell w5 R 0 (.int .i64 ((q.s : Int) + 1))) (s' := secS (i : Int) q) rfl (heap_setCell_same w5 R 0 _ 32 _ HM5.out.rep) HBR.out.1 HBR.out.2.1 HBR.out.2.2 HN5.out)
        go_wp2_with fail
        go_roundw
        case rel => exact ⟨i + 1, secS (i : Int) q, Fq, by omega, by go_num, rfl, Lib.hid (HOq.out.sec _), HNext, HM6⟩
        case measure => simp [intOf]; omega
       ·have hd1' : ¬ (q.k : Int) < (n : Int) := by omega
        clear hd
        go_upto_region 17 with (first
         | (first | (refine wpList_load_row rfl 27 _ rfl w.heap.size rfl 27 _ (0, 0) _ HMq.out.su Tryz.underlying27 rfl (by kernel_rfl) ?_) | (refine wpList_load_row_w 27 _ rfl w.heap.size rfl rfl 27 _ (0, 0) _ HMq.out.su Tryz.underlying27 rfl (by kernel_rfl) ?_))
         | (go_at_call 40; go_loud (refine HSec.out.mono ?_; rintro e w5 ⟨rfl, hof, hr5⟩; have HM5 := Lib.hid (HMq.out.wrote hof (s' := { q with fl := max q.fl (seenN q.c.fl (i : Int)) }) rfl (by rw [HMax.out]; exact hr5) HBR.out.1 HBR.out.2.1 HBR.out.2.2 HNq.out); have HN5 := Lib.hid (Nat.le_trans HNq.out hof.size); clear hof hr5)))
        have p0 : w5.cell? ⟨R, 0, none⟩ = some (.int .i64 (q.s : Int)) := cell_of_row w5 _ 0 _ _ _ HM5.out.rep
        have f0 : w5.frozen? ⟨R, 0, none⟩ = false := frozen_of_row w5 _ 0 _ _ HM5.out.rep
        have hsw : IntKind.i64.wrap ((q.s : Int) + 1) = (q.s : Int) + 1 := IntWalk.i64_in _ (by have := HQe.out.2; omega)
        have hiw : IntKind.i64.wrap ((i : Int) + 1) = (i : Int) + 1 := IntWalk.i64_in _ (by omega)
        have HM6 := Lib.hid (HM5.out.wrote (off_cell w5 R 0 (.int .i64 ((q.s : Int) + 1))) (s' := secS (i : Int) q) rfl (heap_setCell_same w5 R 0 _ 32 _ HM5.out.rep) HBR.out.1 HBR.out.2.1 HBR.out.2.2 HN5.out)
        go_wp2_with fail
        go_roundw
        case rel => exact ⟨i + 1, secS (i : Int) q, Fq, by omega, by go_num, rfl, Lib.hid (HOq.out.sec _), HNext, HM6⟩
        case measure => simp [intOf]; omega
 ·rw [if_neg hk]
  have HN' := Lib.hid (fun (W : World) => (HN.out W).mono (by
   rintro e w' (⟨_, h1, h2⟩ | ⟨h1, _⟩)
   ·exact ⟨h1, h2⟩
   ·exact absurd h1 hk : ∀ e w', _ → e = .returned (.tuple #[.pointer none, .int .i64 k0]) ∧ Below W.heap.size W w'))
  clear HN
  have ek : (k0 != 0) = true := by simp [hk]
  clear hk
  go_enter Tryz.func11, Tryz.ntmps11
  go_upto_region 3 with (first
   | (first | (refine wpList_load_row rfl 27 _ rfl w.heap.size rfl 27 _ (0, 0) _ HG.out.1 Tryz.underlying27 rfl (by kernel_rfl) ?_) | (refine wpList_load_row_w 27 _ rfl w.heap.size rfl rfl 27 _ (0, 0) _ HG.out.1 Tryz.underlying27 rfl (by kernel_rfl) ?_))
   | (go_at_call 37; go_loud (refine (HN'.out _).mono ?_; rintro e w1 ⟨rfl, hb1⟩; have HB1 := Lib.hid hb1; clear hb1)))
  have hr := (HB1.out.block V0.heap.size (by rw [HZ0.out]; omega)).trans HG.out.2
  have c0 : w1.cell? ⟨V0.heap.size, 0, none⟩ = some (.int .i64 0) := cell_of_row w1 _ 0 _ _ _ hr
  have f0 : w1.frozen? ⟨V0.heap.size, 0, none⟩ = false := frozen_of_row w1 _ 0 _ _ hr
  have c1 : w1.cell? ⟨V0.heap.size, 1, none⟩ = some (.int .i64 0) := cell_of_row w1 _ 1 _ _ _ hr
  have f1 : w1.frozen? ⟨V0.heap.size, 1, none⟩ = false := frozen_of_row w1 _ 1 _ _ hr
  have c2 : w1.cell? ⟨V0.heap.size, 2, none⟩ = some (.int .i64 0) := cell_of_row w1 _ 2 _ _ _ hr
  have f2 : w1.frozen? ⟨V0.heap.size, 2, none⟩ = false := frozen_of_row w1 _ 2 _ _ hr
  have c3 : w1.cell? ⟨V0.heap.size, 3, none⟩ = some (.int .i64 0) := cell_of_row w1 _ 3 _ _ _ hr
  have f3 : w1.frozen? ⟨V0.heap.size, 3, none⟩ = false := frozen_of_row w1 _ 3 _ _ hr
  have c4 : w1.cell? ⟨V0.heap.size, 4, none⟩ = some (.int .i64 0) := cell_of_row w1 _ 4 _ _ _ hr
  have f4 : w1.frozen? ⟨V0.heap.size, 4, none⟩ = false := frozen_of_row w1 _ 4 _ _ hr
  have c5 : w1.cell? ⟨V0.heap.size, 5, none⟩ = some (.int .i64 0) := cell_of_row w1 _ 5 _ _ _ hr
  have f5 : w1.frozen? ⟨V0.heap.size, 5, none⟩ = false := frozen_of_row w1 _ 5 _ _ hr
  have c6 : w1.cell? ⟨V0.heap.size, 6, none⟩ = some (.int .i64 0) := cell_of_row w1 _ 6 _ _ _ hr
  have f6 : w1.frozen? ⟨V0.heap.size, 6, none⟩ = false := frozen_of_row w1 _ 6 _ _ hr
  have c7 : w1.cell? ⟨V0.heap.size, 7, none⟩ = some (.int .i64 0) := cell_of_row w1 _ 7 _ _ _ hr
  have f7 : w1.frozen? ⟨V0.heap.size, 7, none⟩ = false := frozen_of_row w1 _ 7 _ _ hr
  have HR := Lib.hid hr
  clear hr
  go_wp2_with fail
  have hbw := HBV.out.trans (HB1.out.mono HBV.out.size)
  refine ret_rep (b := V0.heap.size) (set8 HR.out _ _ _ _ _ _ _ _) rfl rfl rfl ?_
  refine ⟨rfl, ?_⟩
  have hl : w.heap.size ≤ V0.heap.size := by rw [HZ0.out]; omega
  exact (((((((hbw.setCell hl _).setCell hl _).setCell hl _).setCell hl _).setCell hl _).setCell hl _).setCell hl _).setCell hl _
end Go.Proofs.YtaebebpldkciiaaGreatDoor
