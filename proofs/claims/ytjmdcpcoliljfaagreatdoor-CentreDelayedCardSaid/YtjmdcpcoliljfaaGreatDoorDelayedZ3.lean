/- Texts U38, U45, U46, U40. -/
import Derived.Test.YtjmdcpcoliljfaaGreatDoorDelayedZ2
import Derived.Test.YtjmdcpcoliljfaaGreatDoorG20
/- CentreRefuses: the walk. -/
namespace Go.Proofs.YtjmdcpcoliljfaaGreatDoor
open Go.RowKit

/-- What holds in CentreRefuses behind k inputs. -/
def RefJ (_N b1 b2 b3 b4 : Nat) (_ : Nat) (c : Ce) (F : Nat → Prop) (w : World) : Prop := (∃ v oh, RefM F b1 b2 v oh c.fl c.ow w) ∧ V1 b3 3 (.int .i64 c.time) w ∧ V1 b4 3 (.int .i64 (c.log.length : Int)) w ∧ ¬ F b3 ∧ ¬ F b4
theorem step_code {S : Su} {c : Ce} {x : Inp} {ks : Nat → ByteArray} : ((stepP ks S c x).2 ≠ 0 → (stepP ks S c x).1 = c) ∧ ((stepP ks S c x).2 = 0 → (methP S c x).2 = 0 ∧ (stepP ks S c x).1 = bookC ks (methP S c x).1 x) := by
  unfold stepP
  split
  · exact ⟨fun _ => rfl, fun h => absurd (show (_ : Int) = 0 from h) (by simp)⟩
  split
  · exact ⟨fun _ => rfl, fun h => absurd (show (_ : Int) = 0 from h) (by simp)⟩
  split
  · rename_i h
    exact ⟨fun h => absurd rfl h, fun _ => ⟨h, rfl⟩⟩
  · rename_i h
    exact ⟨fun _ => rfl, fun h2 => absurd h2 h⟩
theorem off_mid {b1 b2 b3 b4 N N1 : Nat} {w w' : World} (h : Off (Four b1 b2 b3 b4) w w') (hN : N ≤ w.heap.size) (h1 : N ≤ b1 ∧ b1 < N1) (h2 : N ≤ b2 ∧ b2 < N1) (h3 : N ≤ b3 ∧ b3 < N1) (h4 : N ≤ b4 ∧ b4 < N1) : Mid N N1 w w' := by
  refine ⟨⟨h.os, h.tape, h.output, h.size, fun k hk => h.block k (by omega) (fun hf => ?_)⟩, fun k hk hkl => h.block k hkl (fun hf => ?_)⟩ <;> rcases hf with hf | hf | hf | hf <;> omega
theorem run30 (S : Su) (l : List Inp) (hs : List Hd) (N N1 m b1 b2 b3 b4 : Nat) (hm : m ≤ 14) (_hN : N ≤ N1) (h1 : N ≤ b1 ∧ b1 < N1) (h2 : N ≤ b2 ∧ b2 < N1) (h3 : N ≤ b3 ∧ b3 < N1) (h4 : N ≤ b4 ∧ b4 < N1)
    (n12 : b1 ≠ b2) (n13 : b1 ≠ b3) (n14 : b1 ≠ b4) (n23 : b2 ≠ b3) (n24 : b2 ≠ b4) (n34 : b3 ≠ b4) :
    RunF kindsS S l hs N N1 m 30 #[.pointer (some ⟨b1, 0, none⟩), .pointer (some ⟨b2, 0, none⟩), .pointer (some ⟨b3, 0, none⟩), .pointer (some ⟨b4, 0, none⟩)] (RefJ N b1 b2 b3 b4) := by
  intro k c F F' g wa wb hk hS hok hacc hJ hF hF' hN1 hb hc hof hsub _
  obtain ⟨⟨v, oh, hr⟩, e3, e4, n3, n4⟩ := hJ
  have hokc : CeOk (stepP kindsS S c (l[k]!)).1 := step_ok hok (by omega) kindsS _
  have hacc' := step_acc (S := S) hok (by omega) kindsS (l[k]!)
  have hwb : N ≤ wb.heap.size := by have := hof.size; omega
  have q3 : ¬ F' b3 := fun h => by have := hF' _ h; omega
  have q4 : ¬ F' b4 := fun h => by have := hF' _ h; omega
  have hcode := step_code (S := S) (c := c) (x := l[k]!) (ks := kindsS)
  by_cases h0 : (stepP kindsS S c (l[k]!)).2 = 0
  · obtain ⟨hm0, hbk⟩ := hcode.2 h0
    have hlog : (methP S c (l[k]!)).1.log = c.log := (meth_time (S := S) hok (by omega) _).1
    have hl : (stepP kindsS S c (l[k]!)).1.log = c.log ++ [⟨(c.log.length : Int) + 1, (l[k]!).time, kindsS (l[k]!).kind.toNat, (l[k]!).call⟩] := by rw [hbk]; unfold bookC; rw [hlog]
    have hlen : (stepP kindsS S c (l[k]!)).1.log.length = c.log.length + 1 := by rw [hl]; simp
    have het : (stepP kindsS S c (l[k]!)).1.log[c.log.length]? = some ⟨(c.log.length : Int) + 1, (l[k]!).time, kindsS (l[k]!).kind.toNat, (l[k]!).call⟩ := by rw [hl]; simp
    have hti : (stepP kindsS S c (l[k]!)).1.time = (l[k]!).time := by rw [hbk]; rfl
    have hnF : ∀ q, Four b1 b2 b3 b4 q → ¬ F' q := fun q hq hf => by have := hF' q hf; rcases hq with h | h | h | h <;> omega
    rw [h0]
    refine (cl30_yes hc hokc (by omega) (hr.e1.off hof hr.n1) (hr.e2.off hof hr.n2) (e3.off hof n3) (e4.off hof n4) hnF n12 n13 n14 n23 n24 n34 (l[k]!) _ _ _ hlen het rfl rfl hti).mono ?_
    rintro e w' ⟨r1, r2, r3, r4, r5⟩
    exact ⟨r1, off_mid r5 hwb h1 h2 h3 h4, r2, r3, r4, q3, q4⟩
  · have hcc := hcode.1 h0
    have hr' := hr.off hof hsub
    have e3' := e3.off hof n3
    have e4' := e4.off hof n4
    rw [hcc] at hc hokc hacc' ⊢
    refine (cl30_no hc hokc (by omega) hr' e3' e4' (l[k]!) _ _ _ _ h0).mono ?_
    rintro e w' ⟨r1, r2⟩
    exact ⟨r1, .of_below r2 hwb, ⟨v, oh, hr'.below r2⟩, e3'.below r2, e4'.below r2, q3, q4⟩
set_option maxRecDepth 100000 in
set_option maxHeartbeats 8000000 in
theorem refuses_any (S : Su) (l : List Inp) (hs : List Hd) (A : Option Addr) (n cA : Nat) (w : World) (h : ArgOk S l hs A n cA w) :
    Calls Tryz.prog 8 #[suA S, .slice A n cA] w fun e w' => e = .returned (.bool true) ∧ Below w.heap.size w w' := by
  obtain ⟨V, hV, hbV, hzV, hgB⟩ := ArgOk.setup (S := S) (w := w)
  obtain ⟨V4, hV4⟩ : ∃ W, (((V.alloc (.cells #[.slice none 0 0] 37)).alloc (.cells #[.slice none 0 0] 55)).alloc (.cells #[.int .i64 0] 3)).alloc (.cells #[.int .i64 0] 3) = W := ⟨_, rfl⟩
  have hz4 : V4.heap.size = V.heap.size + 4 := by rw [← hV4]; simp only [size_al]
  have hbV4 : Below V.heap.size V V4 := by
    rw [← hV4]
    exact ((((Below.refl _ _).alloc (Nat.le_refl _) _).alloc (by simp) _).alloc (by simp only [size_al]; omega) _).alloc (by simp only [size_al]; omega) _
  have e1 : V1 V.heap.size 37 (.slice none 0 0) V4 := by
    rw [← hV4]
    have a1 := heap_alloc_new V (.cells #[.slice none 0 0] 37)
    have a2 := ((Below.refl (V.alloc (.cells #[.slice none 0 0] 37)).heap.size (V.alloc (.cells #[.slice none 0 0] 37))).alloc (Nat.le_refl _) (.cells #[.slice none 0 0] 55)).alloc (by simp only [size_al]; omega) (.cells #[.int .i64 0] 3) |>.alloc (by simp only [size_al]; omega) (.cells #[.int .i64 0] 3)
    exact (a2.block _ (by simp only [size_al]; omega)).trans a1
  have e2 : V1 (V.heap.size + 1) 55 (.slice none 0 0) V4 := by
    rw [← hV4]
    have a1 := heap_alloc_new (V.alloc (.cells #[.slice none 0 0] 37)) (.cells #[.slice none 0 0] 55)
    rw [size_al] at a1
    have a2 := ((Below.refl ((V.alloc (.cells #[.slice none 0 0] 37)).alloc (.cells #[.slice none 0 0] 55)).heap.size ((V.alloc (.cells #[.slice none 0 0] 37)).alloc (.cells #[.slice none 0 0] 55))).alloc (Nat.le_refl _) (.cells #[.int .i64 0] 3)).alloc (by simp only [size_al]; omega) (.cells #[.int .i64 0] 3)
    exact (a2.block _ (by simp only [size_al]; omega)).trans a1
  have e3 : V1 (V.heap.size + 1 + 1) 3 (.int .i64 0) V4 := by
    rw [← hV4]
    have a1 := heap_alloc_new ((V.alloc (.cells #[.slice none 0 0] 37)).alloc (.cells #[.slice none 0 0] 55)) (.cells #[.int .i64 0] 3)
    rw [size_al, size_al] at a1
    have a2 := (Below.refl (((V.alloc (.cells #[.slice none 0 0] 37)).alloc (.cells #[.slice none 0 0] 55)).alloc (.cells #[.int .i64 0] 3)).heap.size (((V.alloc (.cells #[.slice none 0 0] 37)).alloc (.cells #[.slice none 0 0] 55)).alloc (.cells #[.int .i64 0] 3))).alloc (Nat.le_refl _) (.cells #[.int .i64 0] 3)
    exact (a2.block _ (by simp only [size_al]; omega)).trans a1
  have e4 : V1 (V.heap.size + 1 + 1 + 1) 3 (.int .i64 0) V4 := by
    rw [← hV4]
    have a1 := heap_alloc_new (((V.alloc (.cells #[.slice none 0 0] 37)).alloc (.cells #[.slice none 0 0] 55)).alloc (.cells #[.int .i64 0] 3)) (.cells #[.int .i64 0] 3)
    rw [size_al, size_al, size_al] at a1
    exact a1
  have hbw4 : Below w.heap.size w V4 := hbV.trans (hbV4.mono hbV.size)
  have HG4 := Lib.hid ((hbV4.block w.heap.size (by omega)).trans hgB)
  have HB4 := Lib.hid hbw4
  have HZ4 := Lib.hid (show w.heap.size < V4.heap.size by omega)
  have HFa := Lib.hid (fact_any V4 (h.ks.below hbw4 h.pos) (by omega))
  have HR := Lib.hid (fun (W : World) (hb : Below V4.heap.size V4 W) => (run_any S l hs w.heap.size n (min n 14) A cA 30 #[.pointer (some ⟨V.heap.size, 0, none⟩), .pointer (some ⟨V.heap.size + 1, 0, none⟩), .pointer (some ⟨V.heap.size + 1 + 1, 0, none⟩), .pointer (some ⟨V.heap.size + 1 + 1 + 1, 0, none⟩)] (RefJ w.heap.size V.heap.size (V.heap.size + 1) (V.heap.size + 1 + 1) (V.heap.size + 1 + 1 + 1)) W kindsS (h.ks.below (hbw4.trans (hb.mono hbw4.size)) h.pos) kindsS_ok h.pos (Nat.le_trans hbw4.size hb.size) rfl (h.ins.below (hbw4.trans (hb.mono hbw4.size))) h.cap h.nil
    (fun k c F W1 W2 hJ hb2 => by
      obtain ⟨⟨v, oh, hr⟩, a3, a4, a5⟩ := hJ
      exact ⟨⟨v, oh, hr.below hb2⟩, a3.below hb2, a4.below hb2, a5⟩)
    (fun F W1 hb2 hF => by
      have hbb := hb.trans (hb2.mono hb.size)
      have hsz := hb.size
      have hn : ∀ q, q < V.heap.size + 4 → ¬ F q := fun q hq hf => by have := hF q hf; omega
      exact ⟨⟨⟨none, 0, 0⟩, ⟨none, 0, 0⟩, ⟨e1.below hbb, e2.below hbb, hn _ (by omega), hn _ (by omega), by omega, ⟨[], [], ⟨rfl, rfl, ⟨World.ownsRow_nil _ _ _ _, fun k hk => by cases hk⟩, fun i hi => absurd hi (by simp [newC])⟩⟩, rfl, ⟨World.ownsRow_nil _ _ _ _, fun k hk => by cases hk⟩⟩⟩, e3.below hbb, e4.below hbb, hn _ (by omega), hn _ (by omega)⟩)
    ⟨_, _, rfl, by kernel_rfl, rfl⟩ (run30 S l hs _ _ _ _ _ _ _ (by omega) (Nat.le_trans hbw4.size hb.size) (by have := hb.size; omega) (by have := hb.size; omega) (by have := hb.size; omega) (by have := hb.size; omega) (by omega) (by omega) (by omega) (by omega) (by omega) (by omega))).mono fun e W' hh => (show e = .returned (.bool true) ∧ Below w.heap.size W W' from ⟨hh.1, hh.2.1⟩))
  unfold suA setupA at HR ⊢
  rw [hzV] at HR
  clear hbV hgB h e1 e2 e3 e4 hbV4 hbw4 hz4
  go_enter Tryz.func8, Tryz.ntmps8
  have HV4 := Lib.hid hV4
  clear hV4
  go_upto_region 4 with (fail)
  rw [HV4.out]
  go_wp2_with (first
    | (first | (refine wpList_load_row rfl 27 _ rfl w.heap.size rfl 27 _ (0, 0) _ HG1.out Tryz.underlying27 rfl (by kernel_rfl) ?_) | (refine wpList_load_row_w 27 _ rfl w.heap.size rfl rfl 27 _ (0, 0) _ HG1.out Tryz.underlying27 rfl (by kernel_rfl) ?_))
    | (go_at_call 11; go_loud (refine HFa.out.mono ?_; rintro e w1 ⟨rfl, hb1⟩; have HG1 := Lib.hid ((hb1.block w.heap.size (by have := HZ4.out; omega)).trans HG4.out); have HB1 := Lib.hid hb1; clear hb1))
    | (go_at_call 12; go_loud (refine (HR.out w1 HB1.out).mono ?_; rintro e w2 ⟨rfl, hb2⟩; have HB2 := Lib.hid hb2; clear hb2)))
  go_ret
  exact ⟨rfl, (HB4.out.trans (HB1.out.mono HB4.out.size)).trans HB2.out⟩
end Go.Proofs.YtjmdcpcoliljfaaGreatDoor

/- Small functions of CentreShifted and CentreDelayed. -/
namespace Go.Proofs.YtjmdcpcoliljfaaGreatDoor
open Go.RowKit

/-- A number cut to a range. -/
def cutP (a lo hi : Int) : Int := lo + (if a.tmod (hi - lo + 1) < 0 then a.tmod (hi - lo + 1) + (hi - lo + 1) else a.tmod (hi - lo + 1))
theorem cutP_in (a lo hi : Int) (h2 : lo ≤ hi) : lo ≤ cutP a lo hi ∧ cutP a lo hi ≤ hi := by
  have := Int.tmod_lt_of_pos a (show 0 < hi - lo + 1 by omega)
  have := Int.lt_tmod_of_pos a (show 0 < hi - lo + 1 by omega)
  unfold cutP
  split <;> omega
theorem cl32 (a lo hi : Int) (h1 : -1000 ≤ lo) (h2 : lo ≤ hi) (h3 : hi ≤ 1000) (w : World) :
    Calls Tryz.prog 32 #[.int .i64 a, .int .i64 lo, .int .i64 hi] w fun e w' => e = .returned (.int .i64 (cutP a lo hi)) ∧ w' = w := by
  have k1 : IntKind.i64.wrap (hi - lo) = hi - lo := IntWalk.i64_in _ (by omega)
  have k2 : IntKind.i64.wrap (hi - lo + 1) = hi - lo + 1 := IntWalk.i64_in _ (by omega)
  have hc : cutP a lo hi = lo + (if a.tmod (hi - lo + 1) < 0 then a.tmod (hi - lo + 1) + (hi - lo + 1) else a.tmod (hi - lo + 1)) := rfl
  obtain ⟨m, hm⟩ : ∃ m, hi - lo + 1 = m := ⟨_, rfl⟩
  have hm0 : 0 < m ∧ m ≤ 2001 := by omega
  rw [hm] at hc
  obtain ⟨r, hr⟩ : ∃ r, a.tmod m = r := ⟨_, rfl⟩
  have hr1 : -m < r ∧ r < m := by
    have := Int.tmod_lt_of_pos a hm0.1
    have := Int.lt_tmod_of_pos a hm0.1
    omega
  have k3 : IntKind.i64.wrap r = r := IntWalk.i64_in _ (by omega)
  have k4 : IntKind.i64.wrap (r + m) = r + m := IntWalk.i64_in _ (by omega)
  have k5 : IntKind.i64.wrap (lo + r) = lo + r := IntWalk.i64_in _ (by omega)
  have k6 : IntKind.i64.wrap (lo + (r + m)) = lo + (r + m) := IntWalk.i64_in _ (by omega)
  have k7 : (m == 0) = false := by simp; omega
  have k8 : m ≠ 0 := by omega
  rw [hm] at k2
  rw [hr] at hc
  obtain ⟨z, hz⟩ : ∃ z, cutP a lo hi = z := ⟨_, rfl⟩
  rw [hz] at hc ⊢
  have HZ := Lib.hid hc
  clear hc hz
  go_enter Tryz.func32, Tryz.ntmps32
  by_cases h0 : r < 0
  · have e0 := decide_eq_true h0
    go_wp2
    go_ret
    have := HZ.out
    rw [if_pos h0] at this
    rw [this]
    exact ⟨rfl, rfl⟩
  · have e0 := decide_eq_false h0
    go_wp2
    go_ret
    have := HZ.out
    rw [if_neg (by omega)] at this
    rw [this]
    exact ⟨rfl, rfl⟩
theorem cl37 (a lo hi : Int) (w : World) :
    Calls Tryz.prog 37 #[.int .i64 a, .int .i64 lo, .int .i64 hi] w fun e w' => e = .returned (.bool (decide (lo ≤ a) && decide (a ≤ hi))) ∧ w' = w := by
  by_cases h1 : lo ≤ a
  · have e1 : decide (lo ≤ a) = true := decide_eq_true h1
    have e2 : decide (a ≥ lo) = true := decide_eq_true h1
    go_enter Tryz.func37, Tryz.ntmps37
    go_wp2
    go_ret
    simp [h1]
  · have e1 : decide (lo ≤ a) = false := decide_eq_false h1
    have e2 : decide (a ≥ lo) = false := decide_eq_false h1
    go_enter Tryz.func37, Tryz.ntmps37
    go_wp2
    go_ret
    simp
end Go.Proofs.YtjmdcpcoliljfaaGreatDoor

/- tube.Shift: a tube moved and later. -/
namespace Go.Proofs.YtjmdcpcoliljfaaGreatDoor
open Go.RowKit

theorem cl58 (a b c d : Int) (h1 : -4000000 ≤ a ∧ a ≤ 4000000) (h2 : -4000000 ≤ b ∧ b ≤ 4000000) (h3 : -4000000 ≤ c ∧ c ≤ 4000000) (h4 : -4000000 ≤ d ∧ d ≤ 4000000) (w : World) :
    Calls Tryz.prog 58 #[.agg #[.int .i64 a, .int .i64 b], .agg #[.int .i64 c, .int .i64 d]] w fun e w' => e = .returned (.agg #[.int .i64 (a + c), .int .i64 (b + d)]) ∧ Below w.heap.size w w' := by
  have k1 : IntKind.i64.wrap (a + c) = a + c := IntWalk.i64_in _ (by omega)
  have k2 : IntKind.i64.wrap (b + d) = b + d := IntWalk.i64_in _ (by omega)
  go_enter Tryz.func58, Tryz.ntmps58
  go_wp2
  (try simp only [Exit.inBlock, Exit.then])
  refine bodyPost_ret (results_cell_row rfl _ _ (w.heap.size + 1 + 1) 43 #[.int .i64 (a + c), .int .i64 (b + d)] (0, 0) _ rfl ?_ Tryz.underlying43 rfl (by kernel_rfl)) rfl ?_
  · have := heap_alloc_new ((w.alloc (Obj.cells #[Value.int IntKind.i64 a, Value.int IntKind.i64 b] 43)).alloc (Obj.cells #[Value.int IntKind.i64 c, Value.int IntKind.i64 d] 43)) (Obj.cells #[Value.int IntKind.i64 (a + c), Value.int IntKind.i64 (b + d)] 43)
    rw [size_al, size_al] at this
    exact this
  · exact ⟨rfl, (((Below.refl _ _).alloc (Nat.le_refl _) _).alloc (by simp) _).alloc (by simp only [size_al]; omega) _⟩
theorem nd_set {W : World} {base g n c i : Nat} {l : Tu} (h : W.ownsRow base 47 6 (.slice (some ⟨g, 0, none⟩) n c) n (rowsV ndV l)) (hl : l.length = n) (hi : i < n) (j : Nat) (hj : j < 6) (u : Value) (x : Nd) (hx : (ndV l[i]!).set j u = ndV x) :
    (W.setCell ⟨g, i * 6 + j, none⟩ u).ownsRow base 47 6 (.slice (some ⟨g, 0, none⟩) n c) n (rowsV ndV (l.set i x)) := by
  have := (h.stored (i * 6 + j) u).1
  rwa [rowsV_cell ndV_len l i (by omega) j hj u x hx] at this
theorem nd_cells {W : World} {base g n c k : Nat} {l : Tu} (h : W.ownsRow base 47 6 (.slice (some ⟨g, 0, none⟩) n c) n (rowsV ndV l)) (hl : l.length = n) (hk : k < n) :
    (∀ j v, (ndV l[k]!)[j]? = some v → W.cell? ⟨g, k * 6 + j, none⟩ = some v) ∧ ∀ j, W.frozen? ⟨g, j, none⟩ = false := by
  refine ⟨fun j v hj => ?_, fun j => ?_⟩
  · obtain ⟨b, off, e, _, hr⟩ := (Sl_rows ndV_len h hl (by decide)) (by omega)
    injection e with e
    injection e with e1 e2
    subst e1
    subst e2
    have := hr k hk j v
    simpa using this hj
  · rcases h.2 with ⟨e, _⟩ | ⟨g', cap, cur, e, _, hg, _⟩
    · cases e
    · injection e with e
      injection e with e
      injection e with e1
      subst e1
      exact frozen_of_row _ _ _ _ _ hg
theorem list_at_set {α : Type} [Inhabited α] {l : List α} {k : Nat} (x : α) (hk : k < l.length) : (l.set k x)[k]! = x := by
  rw [getElem!_pos _ k (by simpa using hk)]
  simp
/-- The first k nodes are moved. -/
def parT (d : Mv) (l : Tu) (k : Nat) : Tu := (l.take k).map (shN d) ++ l.drop k
theorem parT_len (d : Mv) (l : Tu) (k : Nat) : (parT d l k).length = l.length := by unfold parT; simp; omega
theorem parT_at (d : Mv) (l : Tu) (k : Nat) (hk : k < l.length) : (parT d l k)[k]! = l[k]! := by
  rw [getElem!_pos _ k (by rw [parT_len]; exact hk), getElem!_pos l k hk]
  unfold parT
  rw [List.getElem_append_right (by simp; omega)]
  simp only [List.length_map, List.length_take, List.getElem_drop]
  congr 1
  omega
theorem parT_set (d : Mv) (l : Tu) (k : Nat) (hk : k < l.length) : (parT d l k).set k (shN d l[k]!) = parT d l (k + 1) := by
  unfold parT
  have hlen : ((l.take k).map (shN d)).length = k := by simp; omega
  rw [List.set_append_right k _ (by omega), hlen, Nat.sub_self, getElem!_pos l k hk, List.drop_eq_getElem_cons hk, List.set_cons_zero, List.take_succ_eq_append_getElem hk, List.map_append, List.append_assoc]
  rfl
theorem parT_zero (d : Mv) (l : Tu) : parT d l 0 = l := by simp [parT]
theorem parT_all (d : Mv) (l : Tu) (k : Nat) (hk : l.length ≤ k) : parT d l k = shT d l := by unfold parT shT; rw [List.take_of_length_le hk, List.drop_of_length_le hk, List.append_nil]

/-- What tube.Shift leaves. -/
def ShiftP (d : Mv) (l : Tu) (w : World) (e : Ending) (w' : World) : Prop :=
  Below w.heap.size w w' ∧ ((∃ k : Int, k ≠ 0 ∧ e = .returned (.tuple #[.slice none 0 0, .int .i64 k])) ∨ (∃ v : Hd, e = .returned (.tuple #[.slice v.A v.n v.c, .int .i64 0]) ∧ TuM (fun k => w.heap.size ≤ k) v (shT d l) w' ∧ TuOk l ∧ TuOk (shT d l)))
set_option maxRecDepth 100000 in
set_option maxHeartbeats 16000000 in
theorem cl34 (d : Mv) (hx : -500 ≤ d.dx ∧ d.dx ≤ 500) (hy : -500 ≤ d.dy ∧ d.dy ≤ 500) (ht : 0 ≤ d.dt ∧ d.dt ≤ 500) (A : Option Addr) (n c : Nat) (l : Tu) (w : World) (hA : TuA A n l w) (hn : n ≤ maxLen) :
    Calls Tryz.prog 34 #[.slice A n c, .agg #[.int .i64 d.dx, .int .i64 d.dy], .int .i64 d.dt] w (ShiftP d l w) := by
  obtain ⟨dx, dy, dt⟩ := d
  dsimp only at hx hy ht
  have d1 : decide (dx < -2000000) = false := decide_eq_false (by omega)
  have d2 : decide (2000000 < dx) = false := decide_eq_false (by omega)
  have d3 : decide (dy < -2000000) = false := decide_eq_false (by omega)
  have d4 : decide (2000000 < dy) = false := decide_eq_false (by omega)
  have d5 : decide (dt < -200000) = false := decide_eq_false (by omega)
  have d6 : decide (200000 < dt) = false := decide_eq_false (by omega)
  obtain ⟨R, hR⟩ : ∃ R, ShiftP ⟨dx, dy, dt⟩ l w = R := ⟨_, rfl⟩
  have HR := Lib.hid hR
  obtain ⟨V, hV⟩ : ∃ V, w.alloc (.cells #[.int .i64 dx, .int .i64 dy] 43) = V := ⟨_, rfl⟩
  have hbV : Below w.heap.size w V := by rw [← hV]; exact (Below.refl _ _).alloc (Nat.le_refl _) _
  have hrV : V.heap[w.heap.size]? = some (.cells #[.int .i64 dx, .int .i64 dy] 43) := by rw [← hV]; exact heap_alloc_new _ _
  have hC1 := TCheck_any A n c l V (hA.below hbV) hn
  obtain ⟨k0, hk0⟩ : ∃ k, tuE l = k := ⟨_, rfl⟩
  rw [hk0] at hC1
  have HC1 := Lib.hid hC1
  have HrV := Lib.hid hrV
  dsimp only
  rw [hR]
  clear hR hC1 hrV
  by_cases h0 : k0 = 0
  · have e0 : (k0 != 0) = false := by simpa using h0
    have hok : TuOk l := tuOk_of (hk0.trans h0)
    have h64 := hok.n1
    have hln := hA.1
    have hn0 : 0 < n := by have := hok.n0; omega
    have hn64 : n ≤ 64 := by omega
    have HK := Lib.hid hok
    have HCl := Lib.hid (fun (W : World) (hb : Below V.heap.size V W) => (CloneT_any c (hA.below (hbV.trans (hb.mono hbV.size))) (show n ≤ 1000 by omega)).mono fun e w' hh => (show ∃ g cc : Nat, e = .returned (.slice (some ⟨g, 0, none⟩) n cc) ∧ w'.ownsRow W.heap.size 47 6 (.slice (some ⟨g, 0, none⟩) n cc) n (rowsV ndV (parT ⟨dx, dy, dt⟩ l 0)) ∧ Below V.heap.size V w' from by
      obtain ⟨v, rfl, ho, hb'⟩ := hh
      rw [parT_zero]
      rcases ho.2 with ⟨_, hz⟩ | ⟨g, cc, cur, rfl, _⟩
      · omega
      · exact ⟨g, cc, rfl, ho, hb.trans (hb'.mono hb.size)⟩))
    have HZ := Lib.hid (show V.heap.size = w.heap.size + 1 by rw [← hV, size_al])
    have HbV := Lib.hid hbV
    have HLn := Lib.hid hln
    clear hA hok hbV hk0 hln
    go_enter Tryz.func34, Tryz.ntmps34
    go_upto_region 4 with (first | (go_at_call 43; go_loud (refine HC1.out.mono ?_; rintro e w1 ⟨rfl, hb1⟩; have HB1 := Lib.hid hb1; have k1 : w1.cell? ⟨w.heap.size, 0, none⟩ = some (.int .i64 dx) := cell_of_row w1 w.heap.size 0 _ _ _ ((hb1.block _ (by have := HZ.out; omega)).trans HrV.out); have k2 : w1.cell? ⟨w.heap.size, 1, none⟩ = some (.int .i64 dy) := cell_of_row w1 w.heap.size 1 _ _ _ ((hb1.block _ (by have := HZ.out; omega)).trans HrV.out); clear hb1)))
    go_upto_region 8 with (first | (go_at_call 42; go_loud (refine (HCl.out w1 HB1.out).mono ?_; rintro e w2 ⟨g, cc, rfl, ho, hb2⟩; have HO := Lib.hid ho; have HB2 := Lib.hid hb2; clear ho hb2)))
    have hnn : (n : Int) ≤ 64 := by omega
    go_loopw [47] (fun s wr => ∃ k : Nat, k ≤ n ∧ s = .int .i64 (k : Int) ∧ Hid (wr.ownsRow w1.heap.size 47 6 (.slice (some ⟨g, 0, none⟩) n cc) n (rowsV ndV (parT ⟨dx, dy, dt⟩ l k))) ∧ Hid (Below V.heap.size V wr)) (fun s _ => n - (intOf s).toNat)
    case atStart => exact ⟨0, by omega, rfl, HO, HB2⟩
    case round =>
      obtain ⟨k, hk, rfl, HOr, HBr⟩ := hrel
      obtain ⟨wo, hwo⟩ : ∃ wo : World, wo = wr := ⟨_, rfl⟩
      subst hwo
      by_cases hlt : k < n
      · have l1 : decide ((k : Int) < (n : Int)) = true := decide_eq_true (by omega)
        have l0 : (0 : Int) ≤ (k : Int) := by omega
        have hkw : IntKind.i64.wrap ((k : Int) + 1) = (k : Int) + 1 := IntWalk.i64_in _ (by omega)
        have hll := HLn.out
        have hkl : k < l.length := by omega
        obtain ⟨x, hx⟩ : ∃ x, l[k]! = x := ⟨_, rfl⟩
        have hnd : NdOk x := hx ▸ HK.out.nd k hkl
        have hpx : (parT ⟨dx, dy, dt⟩ l k)[k]! = x := (parT_at _ l k hkl).trans hx
        have hpl : (parT ⟨dx, dy, dt⟩ l k).length = n := (parT_len _ l k).trans hll
        have HAdd := Lib.hid (fun (W : World) => cl58 x.x x.y dx dy (by have := hnd.x0; have := hnd.x1; omega) (by have := hnd.y0; have := hnd.y1; omega) (by omega) (by omega) W)
        have HX := Lib.hid (And.intro hx hnd)
        have HBox := Lib.hid (fun (W : World) (hb : Below V.heap.size V W) => (show W.cell? ⟨w.heap.size, 0, none⟩ = some (.int .i64 dx) ∧ W.cell? ⟨w.heap.size, 1, none⟩ = some (.int .i64 dy) from
          ⟨cell_of_row W w.heap.size 0 _ _ _ ((hb.block _ (by have := HZ.out; omega)).trans HrV.out), cell_of_row W w.heap.size 1 _ _ _ ((hb.block _ (by have := HZ.out; omega)).trans HrV.out)⟩))
        have hbd : Below wo.heap.size wo wo.drew := (Below.refl _ _).drew
        have HBD : Hid (Below V.heap.size V wo.drew) := Lib.hid (HBr.out.trans (hbd.mono HBr.out.size))
        have HOd := Lib.hid (own_below HOr.out hbd (Nat.le_refl _))
        have hcd := nd_cells HOr.out hpl hlt
        rw [hpx] at hcd
        have q1 := hcd.1 1 _ rfl
        have q2 := hcd.1 2 _ rfl
        clear hcd hx hnd hbd
        go_upto_region 10 with (fail)
        refine wp_region_held_drew (S := (fun W => W.cell? ⟨w.heap.size, 0, none⟩ = some (.int .i64 dx) ∧ W.cell? ⟨w.heap.size, 1, none⟩ = some (.int .i64 dy))) (by kernel_rfl) (HBox.out _ HBD.out) (fun hHeld => ?_)
        refine wpAnyH_take (i := 0) (oi := ⟨some 50, _, _, _, _, _⟩) (v := ?hu0) rfl (by kernel_rfl) (by kernel_rfl) (by kernel_rfl) (fun _ _ _ h => h) (Or.inl ⟨by rfl, ?hp0⟩) hHeld ?hq0
        case hp0 => (intro W hSw; (try dsimp only at hSw); (try obtain ⟨s1, s2⟩ := hSw); go_simp; try with_reducible rfl)
        try simp only [Act.put, List.setIfInBounds_toArray, List.set_cons_zero, List.set_cons_succ]
        refine wpAnyH_take (i := 1) (oi := ⟨some 51, _, _, _, _, _⟩) (v := ?hu1) rfl (by kernel_rfl) (by kernel_rfl) (by kernel_rfl) (fun _ _ _ h => h) (Or.inl ⟨by rfl, ?hp1⟩) hHeld ?hq1
        case hp1 => (intro W hSw; (try dsimp only at hSw); (try obtain ⟨s1, s2⟩ := hSw); go_simp; try with_reducible rfl)
        try simp only [Act.put, List.setIfInBounds_toArray, List.set_cons_zero, List.set_cons_succ]
        refine wpAnyH_take (i := 2) (oi := ⟨some 52, _, _, _, _, _⟩) (v := ?hu2) rfl (by kernel_rfl) (by kernel_rfl) (by kernel_rfl) (fun _ _ _ h => h) (Or.inl ⟨by rfl, ?hp2⟩) hHeld ?hq2
        case hp2 => (intro W hSw; (try dsimp only at hSw); (try obtain ⟨s1, s2⟩ := hSw); go_simp; try with_reducible rfl)
        try simp only [Act.put, List.setIfInBounds_toArray, List.set_cons_zero, List.set_cons_succ]
        refine wpAnyH_take (i := 3) (oi := ⟨some 53, _, _, _, _, _⟩) (v := ?hu3) rfl (by kernel_rfl) (by kernel_rfl) (by kernel_rfl) (fun _ _ _ h => h) (Or.inl ⟨by rfl, ?hp3⟩) hHeld ?hq3
        case hp3 => (intro W hSw; (try dsimp only at hSw); (try obtain ⟨s1, s2⟩ := hSw); go_simp; try with_reducible rfl)
        try simp only [Act.put, List.setIfInBounds_toArray, List.set_cons_zero, List.set_cons_succ]
        refine wpAnyH_take (i := 4) (oi := ⟨some 54, _, _, _, _, _⟩) (v := ?hu4) rfl (by kernel_rfl) (by kernel_rfl) (by kernel_rfl) (fun _ _ _ h => h) (Or.inl ⟨by rfl, ?hp4⟩) hHeld ?hq4
        case hp4 => (intro W hSw; (try dsimp only at hSw); (try obtain ⟨s1, s2⟩ := hSw); go_simp; try with_reducible rfl)
        try simp only [Act.put, List.setIfInBounds_toArray, List.set_cons_zero, List.set_cons_succ]
        refine wpAnyH_take (i := 5) (oi := ⟨some 55, _, _, _, _, _⟩) (v := ?hu5) rfl (by kernel_rfl) (by kernel_rfl) (by kernel_rfl) (fun _ _ _ h => h) (Or.inl ⟨by rfl, ?hp5⟩) hHeld ?hq5
        case hp5 => (intro W hSw; (try dsimp only at hSw); (try obtain ⟨s1, s2⟩ := hSw); go_simp; try with_reducible rfl)
        try simp only [Act.put, List.setIfInBounds_toArray, List.set_cons_zero, List.set_cons_succ]
        refine wpAnyH_take (i := 6) (oi := ⟨some 56, _, _, _, _, _⟩) (v := ?hu6) rfl (by kernel_rfl) (by kernel_rfl) (by kernel_rfl) (fun _ _ _ h => h) (Or.inl ⟨by rfl, ?hp6⟩) hHeld ?hq6
        case hp6 => (intro W hSw; (try dsimp only at hSw); (try obtain ⟨s1, s2⟩ := hSw); go_simp; try with_reducible rfl)
        try simp only [Act.put, List.setIfInBounds_toArray, List.set_cons_zero, List.set_cons_succ]
        refine wpAnyH_take (i := 8) (oi := ⟨some 58, _, _, _, _, _⟩) (v := ?hu8) rfl (by kernel_rfl) (by kernel_rfl) (by kernel_rfl) (fun _ _ _ h => h) (Or.inl ⟨by rfl, ?hp8⟩) hHeld ?hq8
        case hp8 => (intro W hSw; (try dsimp only at hSw); (try obtain ⟨s1, s2⟩ := hSw); go_simp; try with_reducible rfl)
        try simp only [Act.put, List.setIfInBounds_toArray, List.set_cons_zero, List.set_cons_succ]
        refine wpAnyH_ready (rs := [7]) (by kernel_rfl) (by simp) ?_
        refine (AllReadyH.cons (o := ⟨some 57, _, _, _, _, _⟩) rfl (fun K hK => ?_) AllReadyH.nil)
        go_simp
        refine hK.out _ _ (HBox.out _ HBD.out) (fun hHeld => ?_)
        clear hK K
        try simp only [Act.put, List.setIfInBounds_toArray, List.set_cons_zero, List.set_cons_succ]
        refine wpAnyH_ready (rs := [9]) (by kernel_rfl) (by simp) ?_
        refine (AllReadyH.cons (o := ⟨some 59, _, _, _, _, _⟩) rfl (fun K hK => ?_) AllReadyH.nil)
        go_simp
        go_at_call 58
        (with_reducible refine (HAdd.out wo.drew).mono ?_)
        rintro e w3 ⟨rfl, hb3⟩
        have HB3 := Lib.hid hb3
        have HO3 := Lib.hid (own_below HOd.out hb3 (Nat.le_refl _))
        have hc3 := nd_cells HO3.out hpl hlt
        rw [hpx] at hc3
        have q1 := hc3.1 1 _ rfl
        have q2 := hc3.1 2 _ rfl
        have z1 := hc3.2 (k * 6 + 1)
        have z2 := hc3.2 (k * 6 + 2)
        clear hb3 hc3
        refine hK.out _ _ (HBox.out _ (HBD.out.trans (HB3.out.mono HBD.out.size))) (fun hHeld => ?_)
        clear hK K
        try simp only [Act.put, List.setIfInBounds_toArray, List.set_cons_zero, List.set_cons_succ]
        refine wpAnyH_take (i := 10) (oi := ⟨some 60, _, _, _, _, _⟩) (v := ?hu10) rfl (by kernel_rfl) (by kernel_rfl) (by kernel_rfl) (fun _ _ _ h => h) (Or.inl ⟨by rfl, ?hp10⟩) hHeld ?hq10
        case hp10 => (intro W hSw; (try dsimp only at hSw); (try obtain ⟨s1, s2⟩ := hSw); go_simp; try with_reducible rfl)
        try simp only [Act.put, List.setIfInBounds_toArray, List.set_cons_zero, List.set_cons_succ]
        refine wpAnyH_take (i := 11) (oi := ⟨some 61, _, _, _, _, _⟩) (v := ?hu11) rfl (by kernel_rfl) (by kernel_rfl) (by kernel_rfl) (fun _ _ _ h => h) (Or.inl ⟨by rfl, ?hp11⟩) hHeld ?hq11
        case hp11 => (intro W hSw; (try dsimp only at hSw); (try obtain ⟨s1, s2⟩ := hSw); go_simp; try with_reducible rfl)
        try simp only [Act.put, List.setIfInBounds_toArray, List.set_cons_zero, List.set_cons_succ]
        refine wpAnyH_take (i := 12) (oi := ⟨some 62, _, _, _, _, _⟩) (v := ?hu12) rfl (by kernel_rfl) (by kernel_rfl) (by kernel_rfl) (fun _ _ _ h => h) (Or.inl ⟨by rfl, ?hp12⟩) hHeld ?hq12
        case hp12 => (intro W hSw; (try dsimp only at hSw); (try obtain ⟨s1, s2⟩ := hSw); go_simp; try with_reducible rfl)
        try simp only [Act.put, List.setIfInBounds_toArray, List.set_cons_zero, List.set_cons_succ]
        refine wpAnyH_ready (rs := [13]) (by kernel_rfl) (by simp) ?_
        refine (AllReadyH.cons (o := ⟨none, _, _, _, _, _⟩) rfl (fun K hK => ?_) AllReadyH.nil)
        go_simp
        obtain ⟨w4, hw4⟩ : ∃ W, ((w3.setCell ⟨g, k * 6 + 1, none⟩ (.int .i64 (x.x + dx))).setCell ⟨g, k * 6 + 1 + 1, none⟩ (.int .i64 (x.y + dy))) = W := ⟨_, rfl⟩
        rw [hw4]
        have ha := nd_set HO3.out hpl hlt 1 (by decide) (.int .i64 (x.x + dx)) ⟨x.t, x.x + dx, x.y, x.h, x.r, x.b⟩ (by rw [hpx]; rfl)
        have hb := nd_set ha (by rw [List.length_set]; exact hpl) hlt 2 (by decide) (.int .i64 (x.y + dy)) ⟨x.t, x.x + dx, x.y + dy, x.h, x.r, x.b⟩ (by rw [list_at_set _ (by omega)]; rfl)
        rw [List.set_set] at hb
        have HO4 : Hid (w4.ownsRow w1.heap.size 47 6 (.slice (some ⟨g, 0, none⟩) n cc) n (rowsV ndV ((parT ⟨dx, dy, dt⟩ l k).set k ⟨x.t, x.x + dx, x.y + dy, x.h, x.r, x.b⟩))) := by rw [← hw4]; exact Lib.hid hb
        have hgb : V.heap.size ≤ g := Nat.le_trans HB1.out.size (HO3.out.lt g rfl).1
        have HB4 : Hid (Below V.heap.size V w4) := by rw [← hw4]; exact Lib.hid (((HBD.out.trans (HB3.out.mono HBD.out.size)).setCell hgb _).setCell hgb _)
        clear ha hb hw4
        refine hK.out _ _ (HBox.out _ HB4.out) (fun hHeld => ?_)
        clear hK K
        try simp only [Act.put, List.setIfInBounds_toArray, List.set_cons_zero, List.set_cons_succ]
        refine wpAnyH_done (by kernel_rfl) ?_ _
        have hc4 := nd_cells HO4.out (by rw [List.length_set]; exact hpl) hlt
        rw [list_at_set _ (by omega)] at hc4
        have q0 : w4.cell? ⟨g, k * 6, none⟩ = some (.int .i64 x.t) := hc4.1 0 _ rfl
        have z0 := hc4.2 (k * 6)
        have hnd := HX.out.2
        have hwt : IntKind.i64.wrap (x.t + dt) = x.t + dt := IntWalk.i64_in _ (by have := hnd.t0; have := hnd.t1; omega)
        clear hc4 hnd
        have hv5 := nd_set HO4.out (by rw [List.length_set]; exact hpl) hlt 0 (by decide) (.int .i64 (x.t + dt)) (shN ⟨dx, dy, dt⟩ x) (by rw [list_at_set _ (by omega)]; rfl)
        have hgb : V.heap.size ≤ g := Nat.le_trans HB1.out.size (HO4.out.lt g rfl).1
        rw [List.set_set, ← HX.out.1, parT_set _ l k hkl, HX.out.1] at hv5
        have HO5 := Lib.hid hv5
        have HB5 := Lib.hid (HB4.out.setCell hgb (p := ⟨g, k * 6, none⟩) (.int .i64 (x.t + dt)))
        clear hv5
        go_wp2_with (fail)
        go_roundw
        case rel => exact ⟨k + 1, by omega, rfl, HO5, HB5⟩
        case measure => simp [intOf]; omega
      · have l1 : decide ((k : Int) < (n : Int)) = false := decide_eq_false (by omega)
        have hkn : k = n := by omega
        subst hkn
        have hll := HLn.out
        have hp := parT_all ⟨dx, dy, dt⟩ l k (by omega)
        have ho := HOr.out
        rw [hp] at ho
        have hT : TuA (some ⟨g, 0, none⟩) k (shT ⟨dx, dy, dt⟩ l) wo := TuA.of_own ho ((shT_len _ l).trans hll)
        have hC2 := TCheck_any (some ⟨g, 0, none⟩) k cc _ wo hT hn
        obtain ⟨k1', hk1⟩ : ∃ q, tuE (shT ⟨dx, dy, dt⟩ l) = q := ⟨_, rfl⟩
        rw [hk1] at hC2
        have HC2 := Lib.hid hC2
        have HO6 := Lib.hid ho
        have HK1 := Lib.hid hk1
        clear hC2 ho hT hp hk1
        by_cases h1 : k1' = 0
        · have e1 : (k1' != 0) = false := by simpa using h1
          go_wp2_with (first | (go_at_call 43; go_loud (refine HC2.out.mono ?_; rintro e w5 ⟨rfl, hb5⟩; have HB5 := Lib.hid hb5; clear hb5)))
          rw [← HR.out]
          have hbw : Below w.heap.size w w5 := HbV.out.trans ((HBr.out.trans (HB5.out.mono HBr.out.size)).mono HbV.out.size)
          refine ⟨hbw, .inr ⟨⟨some ⟨g, 0, none⟩, k, cc⟩, by rw [← h1]; rfl, ⟨(shT_len _ l).trans hll |>.symm, ?_⟩, HK.out, tuOk_of (HK1.out.trans h1)⟩⟩
          have hl2 : (shT ⟨dx, dy, dt⟩ l).length = k := (shT_len _ l).trans hll
          rw [hl2]
          refine ⟨own_mono (own_below HO6.out HB5.out (Nat.le_refl _)) (Nat.zero_le _), fun q hq => ?_⟩
          have := (HO6.out.lt q hq).1
          have := HB1.out.size
          have := HZ.out
          omega
        · have e1 : (k1' != 0) = true := by simpa using h1
          go_wp2_with (first | (go_at_call 43; go_loud (refine HC2.out.mono ?_; rintro e w5 ⟨rfl, hb5⟩; have HB5 := Lib.hid hb5; clear hb5)))
          rw [← HR.out]
          exact ⟨HbV.out.trans ((HBr.out.trans (HB5.out.mono HBr.out.size)).mono HbV.out.size), .inl ⟨k1', h1, rfl⟩⟩
  · have e0 : (k0 != 0) = true := by simpa using h0
    have HbV := Lib.hid hbV
    clear hA hbV hk0
    go_enter Tryz.func34, Tryz.ntmps34
    go_wp2_with (first | (go_at_call 43; go_loud (refine HC1.out.mono ?_; rintro e w1 ⟨rfl, hb1⟩; have HB1 := Lib.hid hb1; clear hb1)))
    rw [← HR.out]
    exact ⟨HbV.out.trans (HB1.out.mono HbV.out.size), .inl ⟨k0, h0, rfl⟩⟩
end Go.Proofs.YtjmdcpcoliljfaaGreatDoor

/- A centre that is given inputs, where the function called after each may write what it has made itself. -/
namespace Go.Proofs.YtjmdcpcoliljfaaGreatDoor
open Go.RowKit

/-- The same, where the function may write what it has made itself: what run wants of its function fn, with the captured variables caps: J is what holds behind k inputs. -/
def RunF2 (ks : Nat → ByteArray) (S : Su) (l : List Inp) (hs : List Hd) (N N1 m fn : Nat) (caps : Array Value) (J : Nat → Ce → (Nat → Prop) → World → Prop) : Prop :=
  ∀ (k : Nat) (c : Ce) (F F' : Nat → Prop) (g : Nat) (wa wb : World), k < m → SuOk S → CeOk c → c.acc ≤ k → J k c F wa → (∀ b, F b → N1 ≤ b) → (∀ b, F' b → N1 ≤ b) → N1 ≤ wa.heap.size → Below N wa wb → CeAt F' g S (stepP ks S c l[k]!).1 wb → Off F wa wb → (∀ b, F' b → F b ∨ wa.heap.size < b) → wa.heap.size < wb.heap.size →
  TuA (hs[k]!).A (hs[k]!).n (l[k]!).tube wb →
  Calls Tryz.prog fn (#[.pointer (some ⟨g, 0, none⟩), inpV l[k]! (hs[k]!).A (hs[k]!).n (hs[k]!).c, .int .i64 (stepP ks S c l[k]!).2] ++ caps) wb fun e w' =>
    e = .returned (.bool true) ∧ (Below N wb w' ∧ Kept F' wb w' ∧ w'.heap[wa.heap.size]? = wb.heap[wa.heap.size]?) ∧ J (k + 1) (stepP ks S c l[k]!).1 F' w'
set_option maxRecDepth 100000 in
set_option maxHeartbeats 16000000 in
theorem run_any2 (S : Su) (l : List Inp) (hs : List Hd) (N n m : Nat) (A : Option Addr) (cA fn : Nat) (caps : Array Value) (J : Nat → Ce → (Nat → Prop) → World → Prop) (w : World) (ks : Nat → ByteArray)
    (hks : KsAt ks w) (hko : KsOk ks) (hN0 : 0 < N) (hN : N ≤ w.heap.size) (hm : m = min n 14) (hI : InsA N A n l hs w) (hcap : n ≤ cA ∧ cA ≤ maxLen) (hnil : A = none → n = 0 ∧ cA = 0)
    (hJb : ∀ k c F W W', J k c F W → Below W.heap.size W W' → J k c F W') (hJ0 : ∀ F W, Below w.heap.size w W → (∀ b, F b → w.heap.size ≤ b) → J 0 newC F W)
    (hfn : FunOk fn) (hF : RunF2 ks S l hs N w.heap.size m fn caps J) :
    Calls Tryz.prog 12 #[suA S, .slice A n cA, .func (.func fn) #[] caps] w (RunP S N m J w) := by
  have HN := Lib.hid (fun (W : World) => CNew_any S W)
  have HCk := Lib.hid (fun (W : World) => CCheck_any S.lat S.vert S.g W)
  obtain ⟨V, hV⟩ : ∃ V, w.alloc (suO S) = V := ⟨_, rfl⟩
  have hbV : Below w.heap.size w V := by rw [← hV]; exact (Below.refl _ _).alloc (Nat.le_refl _) _
  have hzV : V.heap.size = w.heap.size + 1 := by rw [← hV, size_al]
  have hgB : V.heap[w.heap.size]? = some (suO S) := by rw [← hV]; exact heap_alloc_new _ _
  unfold suO at hV hgB
  have HGB := Lib.hid hgB
  have HBV := Lib.hid hbV
  have HKS := Lib.hid hks
  have HKO := Lib.hid hko
  have HI := Lib.hid hI
  have HJB := Lib.hid hJb
  have HJ0 := Lib.hid hJ0
  have HF := Lib.hid hF
  have HFun := Lib.hid hfn
  obtain ⟨R, hR⟩ : ∃ R, RunP S N m J w = R := ⟨_, rfl⟩
  have HRe := Lib.hid hR
  have HNs := Lib.hid hN
  have HN0 := Lib.hid hN0
  have HM := Lib.hid hm
  have HNil := Lib.hid hnil
  have HCap := Lib.hid hcap
  rw [hR]
  clear hgB hbV hks hko hI hJb hJ0 hF hfn hR hN0
  obtain ⟨k0, hk0⟩ : ∃ k, suE S = k := ⟨_, rfl⟩
  have HE := Lib.hid hk0
  have hk1 := hk0
  unfold suE at hk0
  rw [hk0] at HCk
  unfold suA at HN ⊢
  unfold setupA at HCk HN ⊢
  unfold NewP at HN
  rw [hk1] at HN
  clear hk0 hk1
  by_cases h0 : k0 = 0
  · subst h0
    have HN' := Lib.hid (fun (W : World) => (HN.out W).mono (by
      rintro e w' (⟨h1, _⟩ | ⟨_, g, h1, ⟨F, h2, h3⟩, h4⟩)
      · exact absurd rfl h1
      · exact ⟨g, h1, ⟨F, h2, h3⟩, h4⟩ : ∀ e w', _ → ∃ g, e = .returned (.tuple #[.pointer (some ⟨g, 0, none⟩), .int .i64 0]) ∧ (∃ F : Nat → Prop, CeAt F g S newC w' ∧ ∀ b, F b → W.heap.size < b) ∧ Below W.heap.size W w'))
    clear HN HCk
    go_enter Tryz.func12, Tryz.ntmps12
    go_upto_region 6 with (first
      | (first | (refine wpList_load_row rfl 27 _ rfl w.heap.size rfl 27 _ (0, 0) _ HGB.out Tryz.underlying27 rfl (by kernel_rfl) ?_) | (refine wpList_load_row_w 27 _ rfl w.heap.size rfl rfl 27 _ (0, 0) _ HGB.out Tryz.underlying27 rfl (by kernel_rfl) ?_))
      | (go_at_call 35; go_loud (refine (HN'.out _).mono ?_; rintro e w1 ⟨g, rfl, ⟨F, hc1, hF1⟩, hb1⟩; have HC1 := Lib.hid hc1; have HF1 := Lib.hid hF1; have HB1 := Lib.hid hb1; clear hc1 hF1 hb1)))
    have hz1 : w.heap.size < w1.heap.size := by have := HB1.out.size; omega
    have hN1 : Below N w w1 := (HBV.out.mono hN).trans (HB1.out.mono (by omega))
    have HN1 := Lib.hid hN1
    have hm14 : m ≤ 14 := by rw [HM.out]; omega
    have hmn : m ≤ n := by rw [HM.out]; omega
    have hmi : min (n : Int) 14 = (m : Int) := by rw [HM.out]; omega
    obtain ⟨A2, c2, hsl, hA2⟩ := takeIn (A := A) (c := cA) n m hmn HCap.out.1 HCap.out.2 HNil.out
    clear hm hN1 hcap hnil
    go_upto_region 7 with (fail)
    have hks1 := HKS.out
    go_loopw [34] (fun s wr => ∃ (k : Nat) (c : Ce) (F : Nat → Prop), k ≤ m ∧ s = .int .i64 (k : Int) ∧ Hid (CeAt F g S c wr ∧ CeOk c ∧ c.acc ≤ k) ∧ Hid (J k c F wr) ∧ Hid (∀ b, F b → w.heap.size ≤ b) ∧ Hid (Below N w wr ∧ w1.heap.size ≤ wr.heap.size)) (fun s _ => m - (intOf s).toNat)
    case atStart =>
      refine ⟨0, newC, F, by omega, rfl, Lib.hid ⟨HC1.out, new_ok, by decide⟩, Lib.hid (HJ0.out F w1 (HBV.out.trans (HB1.out.mono (by omega))) (fun b hb => by have := HF1.out b hb; omega)), Lib.hid (fun b hb => by have := HF1.out b hb; omega), Lib.hid ⟨HN1.out, Nat.le_refl _⟩⟩
    case round =>
      obtain ⟨k, c, F2, hk, rfl, HC, HJ, HFb, HB⟩ := hrel
      obtain ⟨wo, hwo⟩ : ∃ wo : World, wo = wr := ⟨_, rfl⟩
      subst hwo
      have hzr := HB.out.2
      by_cases hlt : k < m
      · have l0 : (0 : Int) ≤ (k : Int) := by omega
        have l1 : (k : Int) < (m : Int) := by omega
        have hkw : IntKind.i64.wrap ((k : Int) + 1) = (k : Int) + 1 := IntWalk.i64_in _ (by omega)
        have hkn : k < n := by omega
        have HIw := Lib.hid (HI.out.below HB.out.1)
        obtain ⟨b, off, hA, hbN, hrow⟩ := HIw.out.row (by omega)
        have hA2' := hA2 (by omega)
        rw [hA] at hA2'
        subst hA2'
        have hr : ∀ j v, (inV l[k]! hs[k]!)[j]? = some v → wo.cell? ⟨b, off + k * 9 + j, none⟩ = some v := hrow k hkn
        obtain ⟨x, hx⟩ : ∃ x, l[k]! = x := ⟨_, rfl⟩
        obtain ⟨⟨tA, tn, tc⟩, hh⟩ : ∃ h, hs[k]! = h := ⟨_, rfl⟩
        have HX := Lib.hid hx
        have HH := Lib.hid hh
        rw [hx, hh] at hr
        have q0 := hr 0 _ rfl
        have q1 := hr 1 _ rfl
        have q2 := hr 2 _ rfl
        have q3 := hr 3 _ rfl
        have q4 := hr 4 _ rfl
        have q5 := hr 5 _ rfl
        have q6 := hr 6 _ rfl
        have q7 := hr 7 _ rfl
        have q8 := hr 8 _ rfl
        simp only [Nat.add_zero] at q0
        clear hr hrow hx hh hks1
        go_upto_region 9 with (fail)
        obtain ⟨w8, hw8⟩ : ∃ W, wo.alloc (.cells #[.int .i64 x.kind, .int .i64 x.time, .string x.call, .string x.by_, .string x.to_, .slice tA tn tc, .int .i64 x.wake, .int .i64 x.slot, .bool x.lands] 35) = W := ⟨_, rfl⟩
        have hb8 : Below wo.heap.size wo w8 := by rw [← hw8]; exact (Below.refl _ _).alloc (Nat.le_refl _) _
        have hB8 : w8.heap[wo.heap.size]? = some (.cells #[.int .i64 x.kind, .int .i64 x.time, .string x.call, .string x.by_, .string x.to_, .slice tA tn tc, .int .i64 x.wake, .int .i64 x.slot, .bool x.lands] 35) := by rw [← hw8]; exact heap_alloc_new _ _
        have hz8 : w8.heap.size = wo.heap.size + 1 := by rw [← hw8, size_al]
        rw [hw8]
        clear hw8 q0 q1 q2 q3 q4 q5 q6 q7 q8
        have hSO : SuOk S := suE_ok HE.out
        have hzw : w.heap.size ≤ w8.heap.size := by omega
        have hNw : Below N w w8 := HB.out.1.trans (hb8.mono (by omega))
        have hC8 : CeAt F2 g S c w8.drew := HC.out.1.elim fun y hy => ⟨y, hy.below hb8.drew⟩
        have hxF : ¬ F2 wo.heap.size := fun h => by obtain ⟨y, hy⟩ := HC.out.1; have := hy.bd _ h; omega
        have hT8 : TuA tA tn x.tube w8.drew := by have := (HI.out.below hNw.drew).tube k hkn; rw [HX.out, HH.out] at this; exact this.tua (by show N ≤ w8.heap.size; omega)
        have hBx : InB x := by have := HI.out.bd k hkn; rw [HX.out] at this; exact this
        have h20 : c.acc < 20 := by have := HC.out.2.2; omega
        have htn : tn ≤ maxLen := by rw [← hT8.1]; exact hBx.tube
        have HSt := Lib.hid (Step_low (N := w.heap.size) (w := w8.drew) hC8 HFb.out (by have := HN0.out; omega) hzw HC.out.2.1 hSO h20 x tA tn tc hT8 htn hBx.call hBx.by_ hBx.to_ ks (HKS.out.below hNw.drew HN0.out) HKO.out)
        have HCl := Lib.hid (fun (w9 : World) (F3 : Nat → Prop) (h1 : CeAt F3 g S (stepP ks S c x).1 w9) (h2 : ∀ b, F3 b → w.heap.size ≤ b) (h3 : Off F2 w8 w9) (h4 : ∀ b, F3 b → F2 b ∨ w8.heap.size ≤ b) (h5 : Below w.heap.size w8 w9) => (by
          have h := HF.out k c F2 F3 g wo w9 hlt hSO HC.out.2.1 HC.out.2.2 HJ.out HFb.out h2 (by omega) ((hb8.mono (by omega)).trans (h5.mono HNs.out)) (by rw [HX.out]; exact h1) ((Off.of_below hb8).trans' h3) (fun b hb => (h4 b hb).imp id (fun h => by omega)) (by have := h3.size; omega)
          rw [HX.out, HH.out] at h
          exact h ((HI.out.below (hNw.trans (h5.mono HNs.out))).tube k hkn |> fun t => by rw [HX.out, HH.out] at t; exact t.tua (by have := h5.size; show N ≤ w9.heap.size; omega))))
        have hokc : CeOk (stepP ks S c x).1 := step_ok HC.out.2.1 h20 ks x
        have hacc : (stepP ks S c x).1.acc ≤ k + 1 := by have := step_acc (S := S) HC.out.2.1 h20 ks x; have := HC.out.2.2; omega
        obtain ⟨⟨c3, kk⟩, hst⟩ : ∃ r, stepP ks S c x = r := ⟨_, rfl⟩
        rw [hst] at HSt HCl hokc hacc
        dsimp only at HCl hokc hacc
        unfold inpV at HSt HCl
        have HOK := Lib.hid hokc
        have HAC := Lib.hid hacc
        have HXF := Lib.hid hxF
        have HB8 := Lib.hid hB8
        have HNW := Lib.hid hNw
        clear hst hokc hacc hC8 hT8 hBx htn hSO hxF hB8 hNw
        refine wp_region_held_drew (S := (fun W => W.heap[wo.heap.size]? = some (.cells #[.int .i64 x.kind, .int .i64 x.time, .string x.call, .string x.by_, .string x.to_, .slice tA tn tc, .int .i64 x.wake, .int .i64 x.slot, .bool x.lands] 35))) (by kernel_rfl) HB8.out (fun hHeld => ?_)
        refine wpAnyH_take (i := 0) (oi := ⟨some 38, _, _, _, _, _⟩) (v := ?u0) rfl (by kernel_rfl) (by kernel_rfl) (by kernel_rfl) (fun _ _ _ h => h) (Or.inl ⟨by rfl, ?p0⟩) hHeld ?q0
        case p0 => (intro W hSw; go_simp; try with_reducible rfl)
        try simp only [Act.put, List.setIfInBounds_toArray, List.set_cons_zero, List.set_cons_succ]
        refine wpAnyH_take (i := 1) (oi := ⟨some 39, _, _, _, _, _⟩) (v := ?u1) rfl (by kernel_rfl) (by kernel_rfl) (by kernel_rfl) (fun _ _ _ h => h) (Or.inl ⟨by rfl, ?p1⟩) hHeld ?q1
        case p1 => (intro W hSw; go_simp; try with_reducible rfl)
        try simp only [Act.put, List.setIfInBounds_toArray, List.set_cons_zero, List.set_cons_succ]
        refine wpAnyH_take (i := 2) (oi := ⟨some 40, _, _, _, _, _⟩) (v := ?u2) rfl (by kernel_rfl) (by kernel_rfl) (by kernel_rfl) (fun _ _ _ h => h) (Or.inl ⟨by rfl, ?p2⟩) hHeld ?q2
        case p2 => (intro W hSw; refine run_exec_row (P := Tryz.prog) 35 (.tmp 10) ?_ wo.heap.size ?_ 35 _ (0, 0) _ hSw Tryz.underlying35 rfl (by kernel_rfl) <;> rfl)
        try simp only [Act.put, List.setIfInBounds_toArray, List.set_cons_zero, List.set_cons_succ]
        refine wpAnyH_take (i := 3) (oi := ⟨some 41, _, _, _, _, _⟩) (v := ?u3) rfl (by kernel_rfl) (by kernel_rfl) (by kernel_rfl) (fun _ _ _ h => h) (Or.inl ⟨by rfl, ?p3⟩) hHeld ?q3
        case p3 => (intro W hSw; go_simp; try with_reducible rfl)
        try simp only [Act.put, List.setIfInBounds_toArray, List.set_cons_zero, List.set_cons_succ]
        refine wpAnyH_take (i := 4) (oi := ⟨some 42, _, _, _, _, _⟩) (v := ?u4) rfl (by kernel_rfl) (by kernel_rfl) (by kernel_rfl) (fun _ _ _ h => h) (Or.inl ⟨by rfl, ?p4⟩) hHeld ?q4
        case p4 => (intro W hSw; refine run_exec_row (P := Tryz.prog) 35 (.tmp 10) ?_ wo.heap.size ?_ 35 _ (0, 0) _ hSw Tryz.underlying35 rfl (by kernel_rfl) <;> rfl)
        try simp only [Act.put, List.setIfInBounds_toArray, List.set_cons_zero, List.set_cons_succ]
        refine wpAnyH_ready (rs := [5]) (by kernel_rfl) (by simp) ?_
        refine (AllReadyH.cons (o := ⟨some 43, _, _, _, _, _⟩) rfl (fun K hK => ?_) AllReadyH.nil)
        go_simp
        go_at_call 36
        (with_reducible refine HSt.out.mono ?_)
        rintro e w9 ⟨⟨rfl, hb9, _⟩, hof9, F3, hc9, hs9⟩
        have hof9 : Off F2 w8 w9 := ⟨hof9.os, hof9.tape, hof9.output, hof9.size, hof9.block⟩
        have hb9 : Below w.heap.size w8 w9 := ⟨hb9.os, hb9.tape, hb9.output, hb9.size, hb9.block⟩
        have hx9 := (hof9.block wo.heap.size (by show _ < w8.heap.size; omega) HXF.out).trans HB8.out
        have HB9 := Lib.hid hb9
        have HC9 := Lib.hid hc9
        have HX9 := Lib.hid hx9
        have hF9 : ∀ b, F3 b → w.heap.size ≤ b := fun b hb => (hs9 b hb).elim (HFb.out b) (fun h => by have h : w8.heap.size ≤ b := h; omega)
        have HF9 := Lib.hid hF9
        have HCq := Lib.hid (HCl.out w9 F3 hc9 hF9 hof9 hs9 hb9)
        clear HCl hof9 hc9 hs9 hF9 hb9
        refine hK.out _ _ hx9 (fun hHeld => ?_)
        clear hK K hx9
        refine wpAnyH_ready (rs := [6]) (by kernel_rfl) (by simp) ?_
        refine (AllReadyH.cons (o := ⟨some 44, _, _, _, _, _⟩) rfl (fun K hK => ?_) AllReadyH.nil)
        go_simp
        obtain ⟨fnF, fnC, e1, e2, e3⟩ := HFun.out
        rw [call_enter e1 e2 e3]
        clear e1 e2 e3
        show Calls Tryz.prog fn _ w9 _
        refine HCq.out.mono ?_
        rintro e w10 ⟨rfl, hmid, hJ10⟩
        have HMid := Lib.hid hmid
        have HJ10 := Lib.hid hJ10
        have hx10 := hmid.2.2.trans HX9.out
        clear hmid hJ10
        go_simp
        refine hK.out _ _ hx10 (fun hHeld => ?_)
        clear hK K
        try simp only [Act.put, List.setIfInBounds_toArray, List.set_cons_zero, List.set_cons_succ]
        refine wpAnyH_ready (rs := [7]) (by kernel_rfl) (by simp) ?_
        refine (AllReadyH.cons (o := ⟨some 45, _, _, _, _, _⟩) rfl (fun K hK => ?_) AllReadyH.nil)
        go_simp
        refine hK.out _ _ hx10 (fun hHeld => ?_)
        clear hK K hx10
        try simp only [Act.put, List.setIfInBounds_toArray, List.set_cons_zero, List.set_cons_succ]
        refine wpAnyH_done (by kernel_rfl) ?_ _
        go_wp2_with fail
        go_roundw
        case rel =>
          have hM := HMid.out
          have h9 := HB9.out.size
          have h10 := hM.1.size
          refine ⟨_, _, _, ⟨k + 1, by omega, rfl, c3, F3, Lib.hid ⟨HC9.out.elim fun y hy => ⟨y, hy.kept hM.2.1⟩, HOK.out, HAC.out⟩, HJ10, HF9, Lib.hid ⟨(HNW.out.trans (HB9.out.mono HNs.out)).trans hM.1, by omega⟩⟩, rfl, rfl, by go_num⟩
        case measure => simp [intOf]; omega
      · obtain rfl : m = k := by omega
        have HR : Hid (R (.returned (.bool true)) wo) := Lib.hid (by rw [← HRe.out]; exact ⟨rfl, HB.out.1, fun _ => ⟨c, F2, HC.out.2.1, HJ.out⟩⟩)
        go_wp2
        (try go_ret)
        exact HR.out
  · have eb : (k0 != 0) = true := by simpa using h0
    have ek : (k0 == k0) = true := by simp
    have HN' := Lib.hid (fun (W : World) => (HN.out W).mono (by
      rintro e w' (⟨_, h1, h2⟩ | ⟨h1, _⟩)
      · exact ⟨h1, h2⟩
      · exact absurd h1 h0 : ∀ e w', _ → e = .returned (.tuple #[.pointer none, .int .i64 k0]) ∧ Below W.heap.size W w'))
    clear HN
    go_enter Tryz.func12, Tryz.ntmps12
    go_wp2_with (first
      | (first | (refine wpList_load_row rfl 27 _ rfl w.heap.size rfl 27 _ (0, 0) _ (by first | exact HGB.out | exact HGB1.out) Tryz.underlying27 rfl (by kernel_rfl) ?_) | (refine wpList_load_row_w 27 _ rfl w.heap.size rfl rfl 27 _ (0, 0) _ (by first | exact HGB.out | exact HGB1.out) Tryz.underlying27 rfl (by kernel_rfl) ?_))
      | (go_at_call 35; go_loud (refine (HN'.out _).mono ?_; rintro e w1 ⟨rfl, hb1⟩; have HGB1 := Lib.hid ((hb1.block w.heap.size (by omega)).trans HGB.out); have HB1 := Lib.hid hb1; clear hb1))
      | (go_at_call 39; go_loud (refine (HCk.out _).mono ?_; rintro e w2 ⟨rfl, hb2⟩; have HB2 := Lib.hid hb2; clear hb2)))
    have hz1 := HB1.out.size
    have HR : Hid (R (.returned (.bool true)) w2) := Lib.hid (by
      rw [← HRe.out]
      exact ⟨rfl, ((HBV.out.mono HNs.out).trans (HB1.out.mono (by omega))).trans (HB2.out.mono (by omega)), fun h => absurd (HE.out.symm.trans h) h0⟩)
    (try go_ret)
    exact HR.out
end Go.Proofs.YtjmdcpcoliljfaaGreatDoor

