/- Contracts and plain words, part 7: texts T17, DelOw, T18, T19, ShR. -/
import Derived.Test.YtaebebpldkciiaaGreatDoorQG06
import Derived.Test.YtaebebpldkciiaaGreatDoorQG04
import Derived.Test.YtaebebpldkciiaaGreatDoorQShR
import Derived.Test.YtaebebpldkciiaaGreatDoorProg
namespace Go.Proofs.YtaebebpldkciiaaGreatDoor
section
open Go.RowKit
set_option maxRecDepth 100000 in
set_option maxHeartbeats 8000000 in
theorem off_cls (b t : ByteArray) (B C : Nat) (W : World) (base g n c i : Nat) (l : List Ow) (hown : W.ownsRow base 136 3 (.slice (some ⟨g, 0, none⟩) n c) n (rowsV owV l)) (hl : l.length = n) (hi : i < n) (hB : B < W.heap.size) (hC : C < W.heap.size) (hg : W.cell? ⟨B, 0, none⟩ = some (.string b)) (hg2 : W.cell? ⟨C, 0, none⟩ = some (.string t)) (ht : t.size ≤ maxLen) :
  Calls Tryz.prog 162 #[.pointer (some ⟨g, i * 3, none⟩), .pointer (some ⟨B, 0, none⟩), .pointer (some ⟨C, 0, none⟩)] W (ChP (chOff b t l[i]!) base g n c i l W) := by
 obtain ⟨⟨c0, c1, c2⟩, f0, f1, f2⟩ := ow_cells hown hl hi
 have hgb := (hown.lt g rfl)
 have hbW : base ≤ W.heap.size := by omega
 have HSt := Lib.hid (fun (V : World) (hb : Below W.heap.size W V) => ow_set (own_below hown hb (Nat.le_refl _)) hl hi 2 (by omega) t ⟨(l[i]!).call, (l[i]!).owner, t⟩ rfl)
 have HO := Lib.hid (fun (V : World) (hb : Below W.heap.size W V) => own_below hown hb (Nat.le_refl _))
 obtain ⟨x, hx⟩ : ∃ x, l[i]! = x := ⟨_, rfl⟩
 rw [hx] at c0 c1 c2 HSt ⊢
 have HN := Lib.hid (fun (V : World) (hb : Below W.heap.size W V) => (OName_any t V ht).mono fun e V2 h => (show e = .returned (.bool (nameB t)) ∧ Below W.heap.size W V2 from ⟨h.1, hb.trans (h.2.mono hb.size)⟩))
 clear hx hown ht
 unfold ChP
 by_cases h : x.owner = b
 ·have e1 : (x.owner.toList == b.toList) = true := by rw [ba_beq]; exact decide_eq_true h
  have e2 : (b.toList == x.owner.toList) = true := by rw [ba_beq]; exact decide_eq_true h.symm
  have HR : Hid (chOff b t x = if x.off = .empty then if nameB t = true then if t = b then (x, 1) else (⟨x.call, x.owner, t⟩, 0) else (x, 3) else (x, 11)) := Lib.hid (by unfold chOff; rw [if_pos h])
  clear h
  by_cases h0 : x.off = .empty
  ·have HR2 : Hid (chOff b t x = if nameB t = true then if t = b then (x, 1) else (⟨x.call, x.owner, t⟩, 0) else (x, 3)) := Lib.hid (by rw [HR.out, if_pos h0])
   rw [h0] at c2
   have h0' : ∀ (V : World), (V.cell? ⟨g, i * 3 + 2, none⟩ = some (.string x.off)) → V.cell? ⟨g, i * 3 + 2, none⟩ = some (.string .empty) := fun V h => by rw [← h0]; exact h
   cases hn : nameB t with
   | true =>
    rw [hn] at HN
    by_cases htb : t = b
    ·have HR3 : Hid (chOff b t x = (x, 1)) := Lib.hid (by rw [HR2.out, hn, if_pos rfl, if_pos htb])
     have e3 : (t.toList == b.toList) = true := by rw [ba_beq]; exact decide_eq_true htb
     rw [HR3.out]
     clear h0 h0' hn htb
     go_enter Tryz.func162, Tryz.ntmps162
     go_upto_region 1 with (fail)
     refine wp_region_quiet_below (by kernel_rfl) (by kernel_rfl) ?_
     have k0 := cell_regrown c1
     have k1 := cell_regrown hg
     repeat (go_big_quiet_step (fail))
     refine wpQuiet_nil ?_
     intro _ hw'
     obtain ⟨⟨dq, osq⟩, hw''⟩ := hw'
     subst hw''
     have hbn := below_regrown W dq osq
     have d2 : (Sort.grow (redrawn W dq) osq).cell? ⟨g, i * 3 + 2, none⟩ = some (.string .empty) := (hbn.cell (p := ⟨g, i * 3 + 2, none⟩) hgb.2).trans c2
     have d5 : (Sort.grow (redrawn W dq) osq).cell? ⟨C, 0, none⟩ = some (.string t) := (hbn.cell (p := ⟨C, 0, none⟩) hC).trans hg2
     have HBn := Lib.hid hbn
     generalize Sort.grow (redrawn W dq) osq = V at *
     clear k0 k1
     go_wp2_with (go_at_call 151; go_loud (refine (HN.out _ (by exact HBn.out)).mono ?_; rintro e w3 ⟨rfl, hb3⟩; have d6 : w3.cell? ⟨C, 0, none⟩ = some (.string t) := (hb3.cell (p := ⟨C, 0, none⟩) hC).trans hg2; have d7 : w3.cell? ⟨B, 0, none⟩ = some (.string b) := (hb3.cell (p := ⟨B, 0, none⟩) hB).trans hg))
     go_ret
     exact ⟨rfl, HO.out _ hb3, hb3.mono hbW⟩
    ·have HR3 : Hid (chOff b t x = (⟨x.call, x.owner, t⟩, 0)) := Lib.hid (by rw [HR2.out, hn, if_pos rfl, if_neg htb])
     have e3 : (t.toList == b.toList) = false := by rw [ba_beq]; exact decide_eq_false htb
     rw [HR3.out]
     clear h0 hn htb
     go_enter Tryz.func162, Tryz.ntmps162
     go_upto_region 1 with (fail)
     refine wp_region_quiet_below (by kernel_rfl) (by kernel_rfl) ?_
     have k0 := cell_regrown c1
     have k1 := cell_regrown hg
     repeat (go_big_quiet_step (fail))
     refine wpQuiet_nil ?_
     intro _ hw'
     obtain ⟨⟨dq, osq⟩, hw''⟩ := hw'
     subst hw''
     have hbn := below_regrown W dq osq
     have d2 : (Sort.grow (redrawn W dq) osq).cell? ⟨g, i * 3 + 2, none⟩ = some (.string .empty) := (hbn.cell (p := ⟨g, i * 3 + 2, none⟩) hgb.2).trans c2
     have d5 : (Sort.grow (redrawn W dq) osq).cell? ⟨C, 0, none⟩ = some (.string t) := (hbn.cell (p := ⟨C, 0, none⟩) hC).trans hg2
     have HBn := Lib.hid hbn
     generalize Sort.grow (redrawn W dq) osq = V at *
     clear k0 k1
     go_wp2_with (go_at_call 151; go_loud (refine (HN.out _ (by exact HBn.out)).mono ?_; rintro e w3 ⟨rfl, hb3⟩; have d6 : w3.cell? ⟨C, 0, none⟩ = some (.string t) := (hb3.cell (p := ⟨C, 0, none⟩) hC).trans hg2; have d7 : w3.cell? ⟨B, 0, none⟩ = some (.string b) := (hb3.cell (p := ⟨B, 0, none⟩) hB).trans hg; have d8 : w3.cell? ⟨g, i * 3 + 2, none⟩ = some (.string .empty) := (hb3.cell (p := ⟨g, i * 3 + 2, none⟩) hgb.2).trans c2; have d9 : w3.frozen? ⟨g, i * 3 + 2, none⟩ = false := (hb3.frozen (p := ⟨g, i * 3 + 2, none⟩) hgb.2).trans f2))
     go_ret
     exact ⟨rfl, HSt.out _ hb3, (hb3.mono hbW).setCell hgb.1 _⟩
   | false =>
    rw [hn] at HN
    have HR3 : Hid (chOff b t x = (x, 3)) := Lib.hid (by rw [HR2.out, hn, if_neg (by decide)])
    rw [HR3.out]
    clear h0 h0' hn
    go_enter Tryz.func162, Tryz.ntmps162
    go_upto_region 1 with (fail)
    refine wp_region_quiet_below (by kernel_rfl) (by kernel_rfl) ?_
    have k0 := cell_regrown c1
    have k1 := cell_regrown hg
    repeat (go_big_quiet_step (fail))
    refine wpQuiet_nil ?_
    intro _ hw'
    obtain ⟨⟨dq, osq⟩, hw''⟩ := hw'
    subst hw''
    have hbn := below_regrown W dq osq
    have d2 : (Sort.grow (redrawn W dq) osq).cell? ⟨g, i * 3 + 2, none⟩ = some (.string .empty) := (hbn.cell (p := ⟨g, i * 3 + 2, none⟩) hgb.2).trans c2
    have d5 : (Sort.grow (redrawn W dq) osq).cell? ⟨C, 0, none⟩ = some (.string t) := (hbn.cell (p := ⟨C, 0, none⟩) hC).trans hg2
    have HBn := Lib.hid hbn
    generalize Sort.grow (redrawn W dq) osq = V at *
    clear k0 k1
    go_wp2_with (go_at_call 151; go_loud (refine (HN.out _ (by exact HBn.out)).mono ?_; rintro e w3 ⟨rfl, hb3⟩))
    go_ret
    exact ⟨rfl, HO.out _ hb3, hb3.mono hbW⟩
  ·have HR2 : Hid (chOff b t x = (x, 11)) := Lib.hid (by rw [HR.out, if_neg h0])
   have e0 : x.off.toList.isEmpty = false := by rw [ByteArray.toList_eq]; exact not_empty h0
   rw [HR2.out]
   clear h0
   go_enter Tryz.func162, Tryz.ntmps162
   go_upto_region 1 with (fail)
   refine wp_region_quiet_below (by kernel_rfl) (by kernel_rfl) ?_
   have k0 := cell_regrown c1
   have k1 := cell_regrown hg
   repeat (go_big_quiet_step (fail))
   refine wpQuiet_nil ?_
   intro _ hw'
   obtain ⟨⟨dq, osq⟩, hw''⟩ := hw'
   subst hw''
   have hbn := below_regrown W dq osq
   have d2 : (Sort.grow (redrawn W dq) osq).cell? ⟨g, i * 3 + 2, none⟩ = some (.string x.off) := (hbn.cell (p := ⟨g, i * 3 + 2, none⟩) hgb.2).trans c2
   have d5 : (Sort.grow (redrawn W dq) osq).cell? ⟨C, 0, none⟩ = some (.string t) := (hbn.cell (p := ⟨C, 0, none⟩) hC).trans hg2
   have HBn := Lib.hid hbn
   generalize Sort.grow (redrawn W dq) osq = V at *
   clear k0 k1
   go_wp2_with fail
   go_ret
   exact ⟨rfl, HO.out _ HBn.out, HBn.out.mono hbW⟩
 ·have e1 : (x.owner.toList == b.toList) = false := by rw [ba_beq]; exact decide_eq_false h
  have e2 : (b.toList == x.owner.toList) = false := by rw [ba_beq]; exact decide_eq_false (fun h2 => h h2.symm)
  have HR : Hid (chOff b t x = (x, 16)) := Lib.hid (by unfold chOff; rw [if_neg h])
  rw [HR.out]
  clear h
  go_enter Tryz.func162, Tryz.ntmps162
  go_upto_region 1 with (fail)
  refine wp_region_quiet_below (by kernel_rfl) (by kernel_rfl) ?_
  have k0 := cell_regrown c1
  have k1 := cell_regrown hg
  repeat (go_big_quiet_step (fail))
  refine wpQuiet_nil ?_
  intro _ hw'
  obtain ⟨⟨dq, osq⟩, hw''⟩ := hw'
  subst hw''
  have hbn := below_regrown W dq osq
  have d2 : (Sort.grow (redrawn W dq) osq).cell? ⟨g, i * 3 + 2, none⟩ = some (.string x.off) := (hbn.cell (p := ⟨g, i * 3 + 2, none⟩) hgb.2).trans c2
  have d5 : (Sort.grow (redrawn W dq) osq).cell? ⟨C, 0, none⟩ = some (.string t) := (hbn.cell (p := ⟨C, 0, none⟩) hC).trans hg2
  have HBn := Lib.hid hbn
  generalize Sort.grow (redrawn W dq) osq = V at *
  clear k0 k1
  go_wp2_with fail
  go_ret
  exact ⟨rfl, HO.out _ HBn.out, HBn.out.mono hbW⟩
end
section
open Go.RowKit
theorem DeleteOw_info : (Tryz.prog.info? 136).map (fun i => (i.zero, i.size, i.bytes)) = some (some (.agg #[.string ByteArray.empty, .string ByteArray.empty, .string ByteArray.empty]), 3, 48) := by kernel_rfl
set_option maxRecDepth 100000 in
set_option maxHeartbeats 2000000 in
theorem DeleteOw_own (base g n cap i j : Nat) (xs : List Value) (w : World) (hown : w.ownsRow base 136 3 (.slice (some ⟨g, 0, none⟩) n cap) n xs) (h1 : ∀ u ∈ xs, u.oneCell' = true) (m q : Nat) (hij : i < j) (hj : j + m = n) (hq : i + m = q) :
  Calls Tryz.prog 197 #[.slice (some ⟨g, 0, none⟩) n cap, .int .i64 (i : Int), .int .i64 (j : Int)] w fun e w' => e = .returned (.slice (some ⟨g, 0, none⟩) q cap) ∧
   w'.ownsRow base 136 3 (.slice (some ⟨g, 0, none⟩) q cap) q (xs.take (i * 3) ++ xs.drop (j * 3)) ∧ w.grownBy w' (some g) := by
 obtain ⟨i0, J0, J1, J2, J3⟩ := info_parts DeleteOw_info
 obtain ⟨_, _, _, hnc, hcm, _⟩ := own_cur hown
 unfold maxLen at hcm
 have hic : i ≤ cap := by omega
 have hqn : q ≤ n := by omega
 have hqc : q ≤ cap := by omega
 have hmj : n - j = m := by omega
 have HQ := Lib.hid hq
 have HJ := Lib.hid hj
 have HM := Lib.hid hmj
 have hjn : j ≤ n := by omega
 clear hq hj hmj
 have HO := Lib.hid hown
 have H1 := Lib.hid h1
 clear hown h1
 have l1 : ((i : Int) == (j : Int)) = false := beq_eq_false_iff_ne.2 (by omega)
 go_enter Tryz.func197, Tryz.ntmps197
 go_wp2
 have hj := HJ.out
 have hjc : j ≤ cap := by omega
 obtain ⟨ad, had, hsl⟩ : ∃ ad : Addr, (0 < m → ad = ⟨g, j * 3, none⟩) ∧ Hid (∀ W : World, (Instr.slice 100 (.slice (some ⟨g, 0, none⟩) n cap) (some (.int .i64 (j : Int))) none none).run Tryz.prog W = .ok (.slice (some ad) (m) (cap - j)) W) := by
  refine ⟨if cap = j then ⟨g, 0, none⟩ else ⟨g, j * 3, none⟩, fun h => by rw [if_neg (by omega)], fun W => ?_⟩
  rw [← HM.out]
  clear hj
  by_cases hcj : cap = j
  ·simp only [hcj, if_true]
   go_simp
  ·simp only [hcj, if_false]
   go_simp
 clear hj
 refine Dr.region (Two (fun w' => w' = w.drew) (fun w' => w'.ownsRow base 136 3 (.slice (some ⟨g, 0, none⟩) q cap) q (xs.take (i * 3) ++ xs.drop (j * 3)) ∧ w.grownBy w' (some g))) [6] [(0, 0, false), (0, 0, false), (0, 0, false), (0, 0, false), (0, 0, false), (0, 0, false), (0, 0, true), (1, 1, false)] 1 (by kernel_rfl) (by kernel_rfl) (by kernel_rfl) (by kernel_rfl) (by rfl) ?_
 apply Dr.cons
 ·intro k hk1 hk2 w' hw K hK; go_simp; exact hK _ hw
 ·exact ⟨_, rfl⟩
 apply Dr.cons
 ·intro k hk1 hk2 w' hw K hK; go_simp; exact hK _ hw
 ·exact ⟨_, rfl⟩
 apply Dr.cons
 ·intro k hk1 hk2 w' hw K hK; go_simp; exact hK _ hw
 ·exact ⟨_, rfl⟩
 apply Dr.cons
 ·intro k hk1 hk2 w' hw K hK; go_simp; exact hK _ hw
 ·exact ⟨_, rfl⟩
 apply Dr.cons
 ·intro k hk1 hk2 w' hw K hK; go_simp; exact hK _ hw
 ·exact ⟨_, rfl⟩
 apply Dr.cons
 ·have hsl' := hsl.out
  intro k hk1 hk2 w' hw K hK; go_simp; exact hK _ hw
 ·exact ⟨_, rfl⟩
 apply Dr.cons
 ·intro k hk1 hk2 w' hw K hK; obtain rfl : k = 0 := by omega
  obtain rfl : w' = _ := hw
  refine Dr.run_ (by rfl) ?_
  refine wp_append_splice (.tmp 22) (.tmp 25) 100 rfl i0 Tryz.underlying100 J0 J2 (own_drewN HO.out 1) H1.out i j m (cap - j) (by omega) HJ.out ad had rfl rfl ?_
  intro w1 hown1 hg1
  rw [HQ.out] at hown1 ⊢
  exact hK _ ⟨hown1, ⟨hg1.os, hg1.tape, hg1.output, hg1.size, hg1.block⟩⟩
 ·exact ⟨_, rfl⟩
 apply Dr.cons
 ·intro k hk1 hk2 w' hw K hK; go_simp; exact hK _ hw
 ·exact ⟨_, rfl⟩
 intro w1 hw1
 obtain ⟨hown1, hg1⟩ : w1.ownsRow base 136 3 (.slice (some ⟨g, 0, none⟩) q cap) q (xs.take (i * 3) ++ xs.drop (j * 3)) ∧ w.grownBy w1 (some g) := hw1
 have hq := HQ.out
 have hj := HJ.out
 obtain ⟨ad2, had2, hsl2⟩ : ∃ ad2 : Addr, (0 < n - q → ad2 = ⟨g, q * 3, none⟩) ∧ Hid (∀ W : World, (Instr.slice 100 (.slice (some ⟨g, 0, none⟩) q cap) (some (.int .i64 (q : Int))) (some (.int .i64 (n : Int))) none).run Tryz.prog W = .ok (.slice (some ad2) (n - q) (cap - q)) W) := by
  refine ⟨if cap = q then ⟨g, 0, none⟩ else ⟨g, q * 3, none⟩, fun h => by rw [if_neg (by omega)], fun W => ?_⟩
  clear hj hq
  by_cases hcj : cap = q
  ·simp only [hcj, if_true]
   have hqn2 : n = q := by omega
   simp only [hqn2]
   go_simp
  ·simp only [hcj, if_false]
   go_simp
 clear hj hq
 have hsl3 := hsl2.out
 go_wp2_with (refine wpList_clear_tail rfl (.tmp 31) 100 rfl i0 _ Tryz.underlying100 J0 J1 rfl (by simp [Value.cells, Value.oneCell']) hown1 (n - q) (cap - q) (by omega) ad2 had2 rfl ?_; intro w2 hown2 hg2)
 go_ret
 exact ⟨rfl, hown2, grown_trans hg1 hg2⟩
theorem DeleteOw_at (base g n cap i j : Nat) (x y : Int) (hx : x = i) (hy : y = j) (xs : List Value) (w : World) (hown : w.ownsRow base 136 3 (.slice (some ⟨g, 0, none⟩) n cap) n xs) (h1 : ∀ u ∈ xs, u.oneCell' = true) (m q : Nat) (hij : i < j) (hj : j + m = n) (hq : i + m = q) :
  Calls Tryz.prog 197 #[.slice (some ⟨g, 0, none⟩) n cap, .int .i64 x, .int .i64 y] w fun e w' => e = .returned (.slice (some ⟨g, 0, none⟩) q cap) ∧
   w'.ownsRow base 136 3 (.slice (some ⟨g, 0, none⟩) q cap) q (xs.take (i * 3) ++ xs.drop (j * 3)) ∧ w.grownBy w' (some g) := by
 subst hx hy
 exact DeleteOw_own base g n cap i j xs w hown h1 m q hij hj hq
end
section
open Go.RowKit
theorem own_pos {w : World} {base e k n : Nat} {v : Value} {xs : List Value} (h : w.ownsRow base e k v n xs) (hn : 0 < n) : ∃ g c, v = .slice (some ⟨g, 0, none⟩) n c := by
 rcases h.2 with ⟨_, h'⟩ | ⟨g, cap, _, rfl, _⟩
 ·omega
 ·exact ⟨g, cap, rfl⟩
theorem isO_lt {l : List Ow} {s : ByteArray} (h : isO l s = true) : lowO l s < l.length ∧ (l[lowO l s]!).call = s := by
 unfold isO at h
 simpa using h
def NoP (k : Int) (w : World) (e : Ending) (w' : World) : Prop := e = .returned (.tuple #[.slice none 0 0, .int .i64 k]) ∧ Below w.heap.size w w'
def YesP (m : List Ow) (w : World) (e : Ending) (w' : World) : Prop := ∃ (A : Option Addr) (c : Nat), e = .returned (.tuple #[.slice A m.length c, .int .i64 0]) ∧ w'.ownsRow w.heap.size 136 3 (.slice A m.length c) m.length (rowsV owV m) ∧ Below w.heap.size w w'
set_option maxRecDepth 100000 in
set_option maxHeartbeats 8000000 in
theorem cgEnd_none (A : Option Addr) (l : List Ow) (n c : Nat) (s : ByteArray) (b : ByteArray) (B : Nat) (w : World) (hA : OwA A n l w) (hok : OwOk l) (_hB : B < w.heap.size) (_hg : w.cell? ⟨B, 0, none⟩ = some (.string b)) (hi : isO l s = false) : Calls Tryz.prog 161 #[.slice A n c, .string s, .func (.func 165) #[] #[.pointer (some ⟨B, 0, none⟩)]] w (NoP 8 w) := by
 have hn := hok.n
 rw [hA.1] at hn
 have HC := Lib.hid (OCheck_ok A n c l w hA hok)
 have HP := Lib.hid (fun (W : World) (hb : Below w.heap.size w W) => (Place_any A l n c s W (hA.below hb) (by omega)).mono fun e W2 h => (show e = .returned (.tuple #[.int .i64 (lowO l s : Nat), .bool (isO l s)]) ∧ Below w.heap.size w W2 from ⟨h.1, hb.trans (h.2.mono hb.size)⟩))
 rw [hi] at HP
 unfold NoP
 clear hi hA hok hn
 go_enter Tryz.func161, Tryz.ntmps161
 go_wp2_with (first
  | (go_at_call 149; go_loud (refine HC.out.mono ?_; rintro e w1 ⟨rfl, hb1⟩))
  | (go_at_call 150; go_loud (refine (HP.out _ (by exact hb1)).mono ?_; rintro e w2 ⟨rfl, hb2⟩)))
 go_ret2
 exact ⟨rfl, hb2⟩
set_option maxRecDepth 100000 in
set_option maxHeartbeats 8000000 in
theorem cgEnd_bad (A : Option Addr) (l : List Ow) (n c : Nat) (s : ByteArray) (b : ByteArray) (B : Nat) (w : World) (hA : OwA A n l w) (hok : OwOk l) (hB : B < w.heap.size) (hg : w.cell? ⟨B, 0, none⟩ = some (.string b)) (hi : isO l s = true) (hk : (chEnd b l[lowO l s]!).2 ≠ 0) : Calls Tryz.prog 161 #[.slice A n c, .string s, .func (.func 165) #[] #[.pointer (some ⟨B, 0, none⟩)]] w (NoP (chEnd b l[lowO l s]!).2 w) := by
 have hn := hok.n
 rw [hA.1] at hn
 have HC := Lib.hid (OCheck_ok A n c l w hA hok)
 have HP := Lib.hid (fun (W : World) (hb : Below w.heap.size w W) => (Place_any A l n c s W (hA.below hb) (by omega)).mono fun e W2 h => (show e = .returned (.tuple #[.int .i64 (lowO l s : Nat), .bool (isO l s)]) ∧ Below w.heap.size w W2 from ⟨h.1, hb.trans (h.2.mono hb.size)⟩))
 have hlt := isO_lt hi
 rw [hi] at HP
 have hp : lowO l s < n := by rw [← hA.1]; exact hlt.1
 have HL := Lib.hid hA.1
 have HCl := Lib.hid (fun (W : World) (hb : Below w.heap.size w W) => CloneO_any c (hA.below hb) hn)
 have HF := Lib.hid (fun (W : World) (base g c5 : Nat) (hb : Below w.heap.size w W) (ho : W.ownsRow base 136 3 (.slice (some ⟨g, 0, none⟩) n c5) n (rowsV owV l)) => end_cls b B W base g n c5 (lowO l s) l ho hA.1 hp (by have := hb.size; omega) ((hb.cell (p := ⟨B, 0, none⟩) hB).trans hg))
 unfold NoP
 unfold ChP at HF
 generalize (chEnd b l[lowO l s]!).2 = k at *
 generalize lowO l s = p at *
 have l1 : (p : Int) < (n : Int) := by omega
 have l0 : (0 : Int) ≤ (p : Int) := by omega
 have k1 : (k != 0) = true := by simpa using hk
 have k2 : (k == 0) = false := by simpa using hk
 have k3 : decide (k = 0) = false := decide_eq_false hk
 clear hi hA hok hn hlt hk
 go_enter Tryz.func161, Tryz.ntmps161
 go_wp2_with (first
  | (go_at_call 149; go_loud (refine HC.out.mono ?_; rintro e w1 ⟨rfl, hb1⟩))
  | (go_at_call 150; go_loud (refine (HP.out _ (by exact hb1)).mono ?_; rintro e w2 ⟨rfl, hb2⟩))
  | (go_at_call 117; go_loud (refine (HCl.out _ (by exact hb2)).mono ?_; rintro e w3 ⟨v5, rfl, ho5, hb5⟩; obtain ⟨g, c5, rfl⟩ := own_pos ho5 (by omega); have HO5 := Lib.hid ho5; have HB3 := Lib.hid (bstep hb2 hb5); have HZ := Lib.hid hb2.size; clear ho5 hb5))
  | (go_at_call 165; go_loud (refine (HF.out _ _ _ _ HB3.out HO5.out).mono ?_; rintro e w4 ⟨rfl, ho6, hb6⟩)))
 go_ret2
 exact ⟨rfl, HB3.out.trans (hb6.mono HZ.out)⟩
set_option maxRecDepth 100000 in
set_option maxHeartbeats 8000000 in
theorem cgEnd_ok (A : Option Addr) (l : List Ow) (n c : Nat) (s : ByteArray) (b : ByteArray) (B : Nat) (w : World) (hA : OwA A n l w) (hok : OwOk l) (hB : B < w.heap.size) (hg : w.cell? ⟨B, 0, none⟩ = some (.string b)) (hi : isO l s = true) (hk : (chEnd b l[lowO l s]!).2 = 0) (hd : (chEnd b l[lowO l s]!).1.call = .empty) : Calls Tryz.prog 161 #[.slice A n c, .string s, .func (.func 165) #[] #[.pointer (some ⟨B, 0, none⟩)]] w (YesP (l.take (lowO l s) ++ l.drop (lowO l s + 1)) w) := by
 have hn := hok.n
 rw [hA.1] at hn
 have HC := Lib.hid (OCheck_ok A n c l w hA hok)
 have HP := Lib.hid (fun (W : World) (hb : Below w.heap.size w W) => (Place_any A l n c s W (hA.below hb) (by omega)).mono fun e W2 h => (show e = .returned (.tuple #[.int .i64 (lowO l s : Nat), .bool (isO l s)]) ∧ Below w.heap.size w W2 from ⟨h.1, hb.trans (h.2.mono hb.size)⟩))
 have hlt := isO_lt hi
 rw [hi] at HP
 have hp : lowO l s < n := by rw [← hA.1]; exact hlt.1
 have HL := Lib.hid hA.1
 have HCl := Lib.hid (fun (W : World) (hb : Below w.heap.size w W) => CloneO_any c (hA.below hb) hn)
 have HF := Lib.hid (fun (W : World) (base g c5 : Nat) (hb : Below w.heap.size w W) (ho : W.ownsRow base 136 3 (.slice (some ⟨g, 0, none⟩) n c5) n (rowsV owV l)) => end_cls b B W base g n c5 (lowO l s) l ho hA.1 hp (by have := hb.size; omega) ((hb.cell (p := ⟨B, 0, none⟩) hB).trans hg))
 unfold YesP
 unfold ChP at HF
 rw [hk, if_pos rfl] at HF
 generalize (chEnd b l[lowO l s]!).1 = y at *
 generalize lowO l s = p at *
 have l1 : (p : Int) < (n : Int) := by omega
 have l0 : (0 : Int) ≤ (p : Int) := by omega
 have HY : Hid (y.call = .empty) := Lib.hid hd
 have hw1 : IntKind.i64.wrap ((p : Int) + 1) = (p : Int) + 1 := IntWalk.i64_in _ (by omega)
 clear hi hA hok hn hlt hk hd
 go_enter Tryz.func161, Tryz.ntmps161
 go_wp2_with (first
  | (go_at_call 149; go_loud (refine HC.out.mono ?_; rintro e w1 ⟨rfl, hb1⟩))
  | (go_at_call 150; go_loud (refine (HP.out _ (by exact hb1)).mono ?_; rintro e w2 ⟨rfl, hb2⟩))
  | (go_at_call 117; go_loud (refine (HCl.out _ (by exact hb2)).mono ?_; rintro e w3 ⟨v5, rfl, ho5, hb5⟩; obtain ⟨g, c5, rfl⟩ := own_pos ho5 (by omega); have HO5 := Lib.hid ho5; have HB3 := Lib.hid (bstep hb2 hb5); have HZ := Lib.hid hb2.size; clear ho5 hb5))
  | (go_at_call 165; go_loud (refine (HF.out _ _ _ _ HB3.out HO5.out).mono ?_; rintro e w4 ⟨rfl, ho6, hb6⟩; have HO6 := Lib.hid ho6; have HB6 := Lib.hid (HB3.out.trans (hb6.mono HZ.out)); obtain ⟨⟨q0, _, _⟩, _, _, _⟩ := ow_cells ho6 (by rw [List.length_set]; exact HL.out) hp; rw [set_get (by rw [HL.out]; exact hp), HY.out] at q0))
  | (go_at_call 197; go_loud (refine (DeleteOw_at _ g n c5 p (p + 1) _ _ rfl (by omega) _ _ HO6.out (rowsV_one owV_one _) (n - (p + 1)) (n - 1) (by omega) (by omega) (by omega)).mono ?_; rintro e w5 ⟨rfl, ho7, hg7⟩)))
 go_ret2
 refine ⟨some ⟨g, 0, none⟩, c5, ?_, ?_, ?_⟩
 ·rw [List.length_append, List.length_take, List.length_drop, HL.out, show min p n + (n - (p + 1)) = n - 1 by omega]; rfl
 ·have e2 : (rowsV owV (l.set p y)).take (p * 3) ++ (rowsV owV (l.set p y)).drop ((p + 1) * 3) = rowsV owV (l.take p ++ l.drop (p + 1)) := by
   rw [rowsV_cut owV_len _ p (by rw [List.length_set, HL.out]; exact hp), List.take_set_of_le (Nat.le_refl _), List.drop_set_of_lt (by omega)]
  rw [e2] at ho7
  have hlen : (l.take p ++ l.drop (p + 1)).length = n - 1 := by
   rw [List.length_append, List.length_take, List.length_drop, HL.out]; omega
  rw [hlen]
  exact own_mono ho7 HZ.out
 ·exact HB6.out.grown hg7 HB6.out.size (fun k hk2 => by cases hk2; have := (HO6.out.lt g rfl).1; have := HZ.out; omega)
set_option maxRecDepth 100000 in
set_option maxHeartbeats 8000000 in
theorem cgAcc_none (A : Option Addr) (l : List Ow) (n c : Nat) (s : ByteArray) (b : ByteArray) (B : Nat) (w : World) (hA : OwA A n l w) (hok : OwOk l) (_hB : B < w.heap.size) (_hg : w.cell? ⟨B, 0, none⟩ = some (.string b)) (hi : isO l s = false) : Calls Tryz.prog 161 #[.slice A n c, .string s, .func (.func 163) #[] #[.pointer (some ⟨B, 0, none⟩)]] w (NoP 8 w) := by
 have hn := hok.n
 rw [hA.1] at hn
 have HC := Lib.hid (OCheck_ok A n c l w hA hok)
 have HP := Lib.hid (fun (W : World) (hb : Below w.heap.size w W) => (Place_any A l n c s W (hA.below hb) (by omega)).mono fun e W2 h => (show e = .returned (.tuple #[.int .i64 (lowO l s : Nat), .bool (isO l s)]) ∧ Below w.heap.size w W2 from ⟨h.1, hb.trans (h.2.mono hb.size)⟩))
 rw [hi] at HP
 unfold NoP
 clear hi hA hok hn
 go_enter Tryz.func161, Tryz.ntmps161
 go_wp2_with (first
  | (go_at_call 149; go_loud (refine HC.out.mono ?_; rintro e w1 ⟨rfl, hb1⟩))
  | (go_at_call 150; go_loud (refine (HP.out _ (by exact hb1)).mono ?_; rintro e w2 ⟨rfl, hb2⟩)))
 go_ret2
 exact ⟨rfl, hb2⟩
set_option maxRecDepth 100000 in
set_option maxHeartbeats 8000000 in
theorem cgAcc_bad (A : Option Addr) (l : List Ow) (n c : Nat) (s : ByteArray) (b : ByteArray) (B : Nat) (w : World) (hA : OwA A n l w) (hok : OwOk l) (hB : B < w.heap.size) (hg : w.cell? ⟨B, 0, none⟩ = some (.string b)) (hi : isO l s = true) (hk : (chAcc b l[lowO l s]!).2 ≠ 0) : Calls Tryz.prog 161 #[.slice A n c, .string s, .func (.func 163) #[] #[.pointer (some ⟨B, 0, none⟩)]] w (NoP (chAcc b l[lowO l s]!).2 w) := by
 have hn := hok.n
 rw [hA.1] at hn
 have HC := Lib.hid (OCheck_ok A n c l w hA hok)
 have HP := Lib.hid (fun (W : World) (hb : Below w.heap.size w W) => (Place_any A l n c s W (hA.below hb) (by omega)).mono fun e W2 h => (show e = .returned (.tuple #[.int .i64 (lowO l s : Nat), .bool (isO l s)]) ∧ Below w.heap.size w W2 from ⟨h.1, hb.trans (h.2.mono hb.size)⟩))
 have hlt := isO_lt hi
 rw [hi] at HP
 have hp : lowO l s < n := by rw [← hA.1]; exact hlt.1
 have HL := Lib.hid hA.1
 have HCl := Lib.hid (fun (W : World) (hb : Below w.heap.size w W) => CloneO_any c (hA.below hb) hn)
 have HF := Lib.hid (fun (W : World) (base g c5 : Nat) (hb : Below w.heap.size w W) (ho : W.ownsRow base 136 3 (.slice (some ⟨g, 0, none⟩) n c5) n (rowsV owV l)) => acc_cls b B W base g n c5 (lowO l s) l ho hA.1 hp (by have := hb.size; omega) ((hb.cell (p := ⟨B, 0, none⟩) hB).trans hg))
 unfold NoP
 unfold ChP at HF
 generalize (chAcc b l[lowO l s]!).2 = k at *
 generalize lowO l s = p at *
 have l1 : (p : Int) < (n : Int) := by omega
 have l0 : (0 : Int) ≤ (p : Int) := by omega
 have k1 : (k != 0) = true := by simpa using hk
 have k2 : (k == 0) = false := by simpa using hk
 have k3 : decide (k = 0) = false := decide_eq_false hk
 clear hi hA hok hn hlt hk
 go_enter Tryz.func161, Tryz.ntmps161
 go_wp2_with (first
  | (go_at_call 149; go_loud (refine HC.out.mono ?_; rintro e w1 ⟨rfl, hb1⟩))
  | (go_at_call 150; go_loud (refine (HP.out _ (by exact hb1)).mono ?_; rintro e w2 ⟨rfl, hb2⟩))
  | (go_at_call 117; go_loud (refine (HCl.out _ (by exact hb2)).mono ?_; rintro e w3 ⟨v5, rfl, ho5, hb5⟩; obtain ⟨g, c5, rfl⟩ := own_pos ho5 (by omega); have HO5 := Lib.hid ho5; have HB3 := Lib.hid (bstep hb2 hb5); have HZ := Lib.hid hb2.size; clear ho5 hb5))
  | (go_at_call 163; go_loud (refine (HF.out _ _ _ _ HB3.out HO5.out).mono ?_; rintro e w4 ⟨rfl, ho6, hb6⟩)))
 go_ret2
 exact ⟨rfl, HB3.out.trans (hb6.mono HZ.out)⟩
set_option maxRecDepth 100000 in
set_option maxHeartbeats 8000000 in
theorem cgAcc_ok (A : Option Addr) (l : List Ow) (n c : Nat) (s : ByteArray) (b : ByteArray) (B : Nat) (w : World) (hA : OwA A n l w) (hok : OwOk l) (hB : B < w.heap.size) (hg : w.cell? ⟨B, 0, none⟩ = some (.string b)) (hi : isO l s = true) (hk : (chAcc b l[lowO l s]!).2 = 0) (hd : (chAcc b l[lowO l s]!).1.call ≠ .empty) : Calls Tryz.prog 161 #[.slice A n c, .string s, .func (.func 163) #[] #[.pointer (some ⟨B, 0, none⟩)]] w (YesP (l.set (lowO l s) (chAcc b l[lowO l s]!).1) w) := by
 have hn := hok.n
 rw [hA.1] at hn
 have HC := Lib.hid (OCheck_ok A n c l w hA hok)
 have HP := Lib.hid (fun (W : World) (hb : Below w.heap.size w W) => (Place_any A l n c s W (hA.below hb) (by omega)).mono fun e W2 h => (show e = .returned (.tuple #[.int .i64 (lowO l s : Nat), .bool (isO l s)]) ∧ Below w.heap.size w W2 from ⟨h.1, hb.trans (h.2.mono hb.size)⟩))
 have hlt := isO_lt hi
 rw [hi] at HP
 have hp : lowO l s < n := by rw [← hA.1]; exact hlt.1
 have HL := Lib.hid hA.1
 have HCl := Lib.hid (fun (W : World) (hb : Below w.heap.size w W) => CloneO_any c (hA.below hb) hn)
 have HF := Lib.hid (fun (W : World) (base g c5 : Nat) (hb : Below w.heap.size w W) (ho : W.ownsRow base 136 3 (.slice (some ⟨g, 0, none⟩) n c5) n (rowsV owV l)) => acc_cls b B W base g n c5 (lowO l s) l ho hA.1 hp (by have := hb.size; omega) ((hb.cell (p := ⟨B, 0, none⟩) hB).trans hg))
 unfold YesP
 unfold ChP at HF
 rw [hk, if_pos rfl] at HF
 generalize (chAcc b l[lowO l s]!).1 = y at *
 generalize lowO l s = p at *
 have l1 : (p : Int) < (n : Int) := by omega
 have l0 : (0 : Int) ≤ (p : Int) := by omega
 have HY : Hid (y.call.toList.isEmpty = false) := Lib.hid (by rw [ByteArray.toList_eq]; exact not_empty hd)
 clear hi hA hok hn hlt hk hd
 go_enter Tryz.func161, Tryz.ntmps161
 go_wp2_with (first
  | (go_at_call 149; go_loud (refine HC.out.mono ?_; rintro e w1 ⟨rfl, hb1⟩))
  | (go_at_call 150; go_loud (refine (HP.out _ (by exact hb1)).mono ?_; rintro e w2 ⟨rfl, hb2⟩))
  | (go_at_call 117; go_loud (refine (HCl.out _ (by exact hb2)).mono ?_; rintro e w3 ⟨v5, rfl, ho5, hb5⟩; obtain ⟨g, c5, rfl⟩ := own_pos ho5 (by omega); have HO5 := Lib.hid ho5; have HB3 := Lib.hid (bstep hb2 hb5); have HZ := Lib.hid hb2.size; clear ho5 hb5))
  | (go_at_call 163; go_loud (refine (HF.out _ _ _ _ HB3.out HO5.out).mono ?_; rintro e w4 ⟨rfl, ho6, hb6⟩; have HO6 := Lib.hid ho6; have HB6 := Lib.hid (HB3.out.trans (hb6.mono HZ.out)); obtain ⟨⟨q0, _, _⟩, _, _, _⟩ := ow_cells ho6 (by rw [List.length_set]; exact HL.out) hp; rw [set_get (by rw [HL.out]; exact hp)] at q0; have qe := HY.out)))
 go_ret2
 have hlen : (l.set p y).length = n := by rw [List.length_set]; exact HL.out
 refine ⟨some ⟨g, 0, none⟩, c5, by rw [hlen]; rfl, by rw [hlen]; exact own_mono HO6.out HZ.out, HB6.out⟩
set_option maxRecDepth 100000 in
set_option maxHeartbeats 8000000 in
theorem cgOff_none (A : Option Addr) (l : List Ow) (n c : Nat) (s : ByteArray) (b t : ByteArray) (B C : Nat) (w : World) (hA : OwA A n l w) (hok : OwOk l) (_hB : B < w.heap.size) (_hC : C < w.heap.size) (_hg : w.cell? ⟨B, 0, none⟩ = some (.string b)) (_hg2 : w.cell? ⟨C, 0, none⟩ = some (.string t)) (_ht : t.size ≤ maxLen) (hi : isO l s = false) : Calls Tryz.prog 161 #[.slice A n c, .string s, .func (.func 162) #[] #[.pointer (some ⟨B, 0, none⟩), .pointer (some ⟨C, 0, none⟩)]] w (NoP 8 w) := by
 have hn := hok.n
 rw [hA.1] at hn
 have HC := Lib.hid (OCheck_ok A n c l w hA hok)
 have HP := Lib.hid (fun (W : World) (hb : Below w.heap.size w W) => (Place_any A l n c s W (hA.below hb) (by omega)).mono fun e W2 h => (show e = .returned (.tuple #[.int .i64 (lowO l s : Nat), .bool (isO l s)]) ∧ Below w.heap.size w W2 from ⟨h.1, hb.trans (h.2.mono hb.size)⟩))
 rw [hi] at HP
 unfold NoP
 clear hi hA hok hn
 go_enter Tryz.func161, Tryz.ntmps161
 go_wp2_with (first
  | (go_at_call 149; go_loud (refine HC.out.mono ?_; rintro e w1 ⟨rfl, hb1⟩))
  | (go_at_call 150; go_loud (refine (HP.out _ (by exact hb1)).mono ?_; rintro e w2 ⟨rfl, hb2⟩)))
 go_ret2
 exact ⟨rfl, hb2⟩
set_option maxRecDepth 100000 in
set_option maxHeartbeats 8000000 in
theorem cgOff_bad (A : Option Addr) (l : List Ow) (n c : Nat) (s : ByteArray) (b t : ByteArray) (B C : Nat) (w : World) (hA : OwA A n l w) (hok : OwOk l) (hB : B < w.heap.size) (hC : C < w.heap.size) (hg : w.cell? ⟨B, 0, none⟩ = some (.string b)) (hg2 : w.cell? ⟨C, 0, none⟩ = some (.string t)) (ht : t.size ≤ maxLen) (hi : isO l s = true) (hk : (chOff b t l[lowO l s]!).2 ≠ 0) : Calls Tryz.prog 161 #[.slice A n c, .string s, .func (.func 162) #[] #[.pointer (some ⟨B, 0, none⟩), .pointer (some ⟨C, 0, none⟩)]] w (NoP (chOff b t l[lowO l s]!).2 w) := by
 have hn := hok.n
 rw [hA.1] at hn
 have HC := Lib.hid (OCheck_ok A n c l w hA hok)
 have HP := Lib.hid (fun (W : World) (hb : Below w.heap.size w W) => (Place_any A l n c s W (hA.below hb) (by omega)).mono fun e W2 h => (show e = .returned (.tuple #[.int .i64 (lowO l s : Nat), .bool (isO l s)]) ∧ Below w.heap.size w W2 from ⟨h.1, hb.trans (h.2.mono hb.size)⟩))
 have hlt := isO_lt hi
 rw [hi] at HP
 have hp : lowO l s < n := by rw [← hA.1]; exact hlt.1
 have HL := Lib.hid hA.1
 have HCl := Lib.hid (fun (W : World) (hb : Below w.heap.size w W) => CloneO_any c (hA.below hb) hn)
 have HF := Lib.hid (fun (W : World) (base g c5 : Nat) (hb : Below w.heap.size w W) (ho : W.ownsRow base 136 3 (.slice (some ⟨g, 0, none⟩) n c5) n (rowsV owV l)) => off_cls b t B C W base g n c5 (lowO l s) l ho hA.1 hp (by have := hb.size; omega) (by have := hb.size; omega) ((hb.cell (p := ⟨B, 0, none⟩) hB).trans hg) ((hb.cell (p := ⟨C, 0, none⟩) hC).trans hg2) ht)
 unfold NoP
 unfold ChP at HF
 generalize (chOff b t l[lowO l s]!).2 = k at *
 generalize lowO l s = p at *
 have l1 : (p : Int) < (n : Int) := by omega
 have l0 : (0 : Int) ≤ (p : Int) := by omega
 have k1 : (k != 0) = true := by simpa using hk
 have k2 : (k == 0) = false := by simpa using hk
 have k3 : decide (k = 0) = false := decide_eq_false hk
 clear hi hA hok hn hlt hk
 go_enter Tryz.func161, Tryz.ntmps161
 go_wp2_with (first
  | (go_at_call 149; go_loud (refine HC.out.mono ?_; rintro e w1 ⟨rfl, hb1⟩))
  | (go_at_call 150; go_loud (refine (HP.out _ (by exact hb1)).mono ?_; rintro e w2 ⟨rfl, hb2⟩))
  | (go_at_call 117; go_loud (refine (HCl.out _ (by exact hb2)).mono ?_; rintro e w3 ⟨v5, rfl, ho5, hb5⟩; obtain ⟨g, c5, rfl⟩ := own_pos ho5 (by omega); have HO5 := Lib.hid ho5; have HB3 := Lib.hid (bstep hb2 hb5); have HZ := Lib.hid hb2.size; clear ho5 hb5))
  | (go_at_call 162; go_loud (refine (HF.out _ _ _ _ HB3.out HO5.out).mono ?_; rintro e w4 ⟨rfl, ho6, hb6⟩)))
 go_ret2
 exact ⟨rfl, HB3.out.trans (hb6.mono HZ.out)⟩
set_option maxRecDepth 100000 in
set_option maxHeartbeats 8000000 in
theorem cgOff_ok (A : Option Addr) (l : List Ow) (n c : Nat) (s : ByteArray) (b t : ByteArray) (B C : Nat) (w : World) (hA : OwA A n l w) (hok : OwOk l) (hB : B < w.heap.size) (hC : C < w.heap.size) (hg : w.cell? ⟨B, 0, none⟩ = some (.string b)) (hg2 : w.cell? ⟨C, 0, none⟩ = some (.string t)) (ht : t.size ≤ maxLen) (hi : isO l s = true) (hk : (chOff b t l[lowO l s]!).2 = 0) (hd : (chOff b t l[lowO l s]!).1.call ≠ .empty) : Calls Tryz.prog 161 #[.slice A n c, .string s, .func (.func 162) #[] #[.pointer (some ⟨B, 0, none⟩), .pointer (some ⟨C, 0, none⟩)]] w (YesP (l.set (lowO l s) (chOff b t l[lowO l s]!).1) w) := by
 have hn := hok.n
 rw [hA.1] at hn
 have HC := Lib.hid (OCheck_ok A n c l w hA hok)
 have HP := Lib.hid (fun (W : World) (hb : Below w.heap.size w W) => (Place_any A l n c s W (hA.below hb) (by omega)).mono fun e W2 h => (show e = .returned (.tuple #[.int .i64 (lowO l s : Nat), .bool (isO l s)]) ∧ Below w.heap.size w W2 from ⟨h.1, hb.trans (h.2.mono hb.size)⟩))
 have hlt := isO_lt hi
 rw [hi] at HP
 have hp : lowO l s < n := by rw [← hA.1]; exact hlt.1
 have HL := Lib.hid hA.1
 have HCl := Lib.hid (fun (W : World) (hb : Below w.heap.size w W) => CloneO_any c (hA.below hb) hn)
 have HF := Lib.hid (fun (W : World) (base g c5 : Nat) (hb : Below w.heap.size w W) (ho : W.ownsRow base 136 3 (.slice (some ⟨g, 0, none⟩) n c5) n (rowsV owV l)) => off_cls b t B C W base g n c5 (lowO l s) l ho hA.1 hp (by have := hb.size; omega) (by have := hb.size; omega) ((hb.cell (p := ⟨B, 0, none⟩) hB).trans hg) ((hb.cell (p := ⟨C, 0, none⟩) hC).trans hg2) ht)
 unfold YesP
 unfold ChP at HF
 rw [hk, if_pos rfl] at HF
 generalize (chOff b t l[lowO l s]!).1 = y at *
 generalize lowO l s = p at *
 have l1 : (p : Int) < (n : Int) := by omega
 have l0 : (0 : Int) ≤ (p : Int) := by omega
 have HY : Hid (y.call.toList.isEmpty = false) := Lib.hid (by rw [ByteArray.toList_eq]; exact not_empty hd)
 clear hi hA hok hn hlt hk hd
 go_enter Tryz.func161, Tryz.ntmps161
 go_wp2_with (first
  | (go_at_call 149; go_loud (refine HC.out.mono ?_; rintro e w1 ⟨rfl, hb1⟩))
  | (go_at_call 150; go_loud (refine (HP.out _ (by exact hb1)).mono ?_; rintro e w2 ⟨rfl, hb2⟩))
  | (go_at_call 117; go_loud (refine (HCl.out _ (by exact hb2)).mono ?_; rintro e w3 ⟨v5, rfl, ho5, hb5⟩; obtain ⟨g, c5, rfl⟩ := own_pos ho5 (by omega); have HO5 := Lib.hid ho5; have HB3 := Lib.hid (bstep hb2 hb5); have HZ := Lib.hid hb2.size; clear ho5 hb5))
  | (go_at_call 162; go_loud (refine (HF.out _ _ _ _ HB3.out HO5.out).mono ?_; rintro e w4 ⟨rfl, ho6, hb6⟩; have HO6 := Lib.hid ho6; have HB6 := Lib.hid (HB3.out.trans (hb6.mono HZ.out)); obtain ⟨⟨q0, _, _⟩, _, _, _⟩ := ow_cells ho6 (by rw [List.length_set]; exact HL.out) hp; rw [set_get (by rw [HL.out]; exact hp)] at q0; have qe := HY.out)))
 go_ret2
 have hlen : (l.set p y).length = n := by rw [List.length_set]; exact HL.out
 refine ⟨some ⟨g, 0, none⟩, c5, by rw [hlen]; rfl, by rw [hlen]; exact own_mono HO6.out HZ.out, HB6.out⟩
end
section
open Go.RowKit
theorem size_al' (w : World) (o : Obj) : (w.alloc o).heap.size = w.heap.size + 1 := by
 simp only [World.alloc, Array.size_push]
set_option maxRecDepth 100000 in
set_option maxHeartbeats 4000000 in
theorem Offer_none (A : Option Addr) (l : List Ow) (n c : Nat) (s b t : ByteArray) (w : World) (hA : OwA A n l w) (hok : OwOk l) (ht : t.size ≤ maxLen) (hi : isO l s = false) : Calls Tryz.prog 109 #[.slice A n c, .string s, .string b, .string t] w (NoP 8 w) := by
 obtain ⟨W, hW⟩ : ∃ W, ((w.alloc (.cells #[.string b] 9)).alloc (.cells #[.string t] 9)) = W := ⟨_, rfl⟩
 have z0 := size_al' w (.cells #[.string b] 9)
 have hb : Below w.heap.size w W := by rw [← hW]; exact ((Below.refl _ w).alloc (Nat.le_refl _) _).alloc (by rw [z0]; omega) _
 have hz : W.heap.size = w.heap.size + 1 + 1 := by rw [← hW, size_al', z0]
 have hg : W.cell? ⟨w.heap.size, 0, none⟩ = some (.string b) := by
  rw [← hW, World.cell?_alloc_lt _ _ _ (by rw [z0]; show w.heap.size < _; omega)]
  exact World.cell?_alloc_new _ _ _ _
 have hg2 : W.cell? ⟨w.heap.size + 1, 0, none⟩ = some (.string t) := by
  have h := World.cell?_alloc_new (w.alloc (.cells #[.string b] 9)) #[.string t] 9 0
  rw [z0] at h
  rw [← hW]; exact h
 have HK := Lib.hid (cgOff_none A l n c s b t w.heap.size (w.heap.size + 1) W (hA.below hb) hok (by omega) (by omega) hg hg2 ht hi)
 unfold NoP at HK ⊢
 clear hg hg2 z0 hz hA hok
 have HB := Lib.hid hb
 go_enter Tryz.func109, Tryz.ntmps109
 go_wp2_with (go_at_call 161; go_loud (refine HK.out.mono ?_; rintro e w1 ⟨rfl, hb1⟩))
 go_ret2
 exact ⟨rfl, bstep HB.out hb1⟩
set_option maxRecDepth 100000 in
set_option maxHeartbeats 4000000 in
theorem Offer_bad (A : Option Addr) (l : List Ow) (n c : Nat) (s b t : ByteArray) (w : World) (hA : OwA A n l w) (hok : OwOk l) (ht : t.size ≤ maxLen) (hi : isO l s = true) (hk : (chOff b t l[lowO l s]!).2 ≠ 0) : Calls Tryz.prog 109 #[.slice A n c, .string s, .string b, .string t] w (NoP (chOff b t l[lowO l s]!).2 w) := by
 obtain ⟨W, hW⟩ : ∃ W, ((w.alloc (.cells #[.string b] 9)).alloc (.cells #[.string t] 9)) = W := ⟨_, rfl⟩
 have z0 := size_al' w (.cells #[.string b] 9)
 have hb : Below w.heap.size w W := by rw [← hW]; exact ((Below.refl _ w).alloc (Nat.le_refl _) _).alloc (by rw [z0]; omega) _
 have hz : W.heap.size = w.heap.size + 1 + 1 := by rw [← hW, size_al', z0]
 have hg : W.cell? ⟨w.heap.size, 0, none⟩ = some (.string b) := by
  rw [← hW, World.cell?_alloc_lt _ _ _ (by rw [z0]; show w.heap.size < _; omega)]
  exact World.cell?_alloc_new _ _ _ _
 have hg2 : W.cell? ⟨w.heap.size + 1, 0, none⟩ = some (.string t) := by
  have h := World.cell?_alloc_new (w.alloc (.cells #[.string b] 9)) #[.string t] 9 0
  rw [z0] at h
  rw [← hW]; exact h
 have HK := Lib.hid (cgOff_bad A l n c s b t w.heap.size (w.heap.size + 1) W (hA.below hb) hok (by omega) (by omega) hg hg2 ht hi hk)
 unfold NoP at HK ⊢
 generalize (chOff b t l[lowO l s]!).2 = k at *
 clear hg hg2 z0 hz hA hok
 have HB := Lib.hid hb
 go_enter Tryz.func109, Tryz.ntmps109
 go_wp2_with (go_at_call 161; go_loud (refine HK.out.mono ?_; rintro e w1 ⟨rfl, hb1⟩))
 go_ret2
 exact ⟨rfl, bstep HB.out hb1⟩
set_option maxRecDepth 100000 in
set_option maxHeartbeats 4000000 in
theorem Offer_ok (A : Option Addr) (l : List Ow) (n c : Nat) (s b t : ByteArray) (w : World) (hA : OwA A n l w) (hok : OwOk l) (ht : t.size ≤ maxLen) (hi : isO l s = true) (hk : (chOff b t l[lowO l s]!).2 = 0) (hd : (chOff b t l[lowO l s]!).1.call ≠ .empty) : Calls Tryz.prog 109 #[.slice A n c, .string s, .string b, .string t] w (YesP (l.set (lowO l s) (chOff b t l[lowO l s]!).1) w) := by
 obtain ⟨W, hW⟩ : ∃ W, ((w.alloc (.cells #[.string b] 9)).alloc (.cells #[.string t] 9)) = W := ⟨_, rfl⟩
 have z0 := size_al' w (.cells #[.string b] 9)
 have hb : Below w.heap.size w W := by rw [← hW]; exact ((Below.refl _ w).alloc (Nat.le_refl _) _).alloc (by rw [z0]; omega) _
 have hz : W.heap.size = w.heap.size + 1 + 1 := by rw [← hW, size_al', z0]
 have hg : W.cell? ⟨w.heap.size, 0, none⟩ = some (.string b) := by
  rw [← hW, World.cell?_alloc_lt _ _ _ (by rw [z0]; show w.heap.size < _; omega)]
  exact World.cell?_alloc_new _ _ _ _
 have hg2 : W.cell? ⟨w.heap.size + 1, 0, none⟩ = some (.string t) := by
  have h := World.cell?_alloc_new (w.alloc (.cells #[.string b] 9)) #[.string t] 9 0
  rw [z0] at h
  rw [← hW]; exact h
 have HK := Lib.hid (cgOff_ok A l n c s b t w.heap.size (w.heap.size + 1) W (hA.below hb) hok (by omega) (by omega) hg hg2 ht hi hk hd)
 unfold YesP at HK ⊢
 generalize (l.set (lowO l s) (chOff b t l[lowO l s]!).1) = m at *
 clear hk hd
 clear hg hg2 z0 hz hA hok
 have HB := Lib.hid hb
 go_enter Tryz.func109, Tryz.ntmps109
 go_wp2_with (go_at_call 161; go_loud (refine HK.out.mono ?_; rintro e w1 ⟨A1, c1, rfl, ho, hb1⟩))
 go_ret2
 exact ⟨A1, c1, rfl, own_mono ho HB.out.size, bstep HB.out hb1⟩
set_option maxRecDepth 100000 in
set_option maxHeartbeats 4000000 in
theorem Accept_none (A : Option Addr) (l : List Ow) (n c : Nat) (s b : ByteArray) (w : World) (hA : OwA A n l w) (hok : OwOk l) (hi : isO l s = false) : Calls Tryz.prog 110 #[.slice A n c, .string s, .string b] w (NoP 8 w) := by
 obtain ⟨W, hW⟩ : ∃ W, (w.alloc (.cells #[.string b] 9)) = W := ⟨_, rfl⟩
 have hb : Below w.heap.size w W := by rw [← hW]; exact (Below.refl _ w).alloc (Nat.le_refl _) _
 have hz : W.heap.size = w.heap.size + 1 := by rw [← hW, size_al']
 have hg : W.cell? ⟨w.heap.size, 0, none⟩ = some (.string b) := by rw [← hW]; exact World.cell?_alloc_new _ _ _ _
 have HK := Lib.hid (cgAcc_none A l n c s b w.heap.size W (hA.below hb) hok (by omega) hg hi)
 unfold NoP at HK ⊢
 clear hg hz hA hok
 have HB := Lib.hid hb
 go_enter Tryz.func110, Tryz.ntmps110
 go_wp2_with (go_at_call 161; go_loud (refine HK.out.mono ?_; rintro e w1 ⟨rfl, hb1⟩))
 go_ret2
 exact ⟨rfl, bstep HB.out hb1⟩
set_option maxRecDepth 100000 in
set_option maxHeartbeats 4000000 in
theorem Accept_bad (A : Option Addr) (l : List Ow) (n c : Nat) (s b : ByteArray) (w : World) (hA : OwA A n l w) (hok : OwOk l) (hi : isO l s = true) (hk : (chAcc b l[lowO l s]!).2 ≠ 0) : Calls Tryz.prog 110 #[.slice A n c, .string s, .string b] w (NoP (chAcc b l[lowO l s]!).2 w) := by
 obtain ⟨W, hW⟩ : ∃ W, (w.alloc (.cells #[.string b] 9)) = W := ⟨_, rfl⟩
 have hb : Below w.heap.size w W := by rw [← hW]; exact (Below.refl _ w).alloc (Nat.le_refl _) _
 have hz : W.heap.size = w.heap.size + 1 := by rw [← hW, size_al']
 have hg : W.cell? ⟨w.heap.size, 0, none⟩ = some (.string b) := by rw [← hW]; exact World.cell?_alloc_new _ _ _ _
 have HK := Lib.hid (cgAcc_bad A l n c s b w.heap.size W (hA.below hb) hok (by omega) hg hi hk)
 unfold NoP at HK ⊢
 generalize (chAcc b l[lowO l s]!).2 = k at *
 clear hg hz hA hok
 have HB := Lib.hid hb
 go_enter Tryz.func110, Tryz.ntmps110
 go_wp2_with (go_at_call 161; go_loud (refine HK.out.mono ?_; rintro e w1 ⟨rfl, hb1⟩))
 go_ret2
 exact ⟨rfl, bstep HB.out hb1⟩
set_option maxRecDepth 100000 in
set_option maxHeartbeats 4000000 in
theorem Accept_ok (A : Option Addr) (l : List Ow) (n c : Nat) (s b : ByteArray) (w : World) (hA : OwA A n l w) (hok : OwOk l) (hi : isO l s = true) (hk : (chAcc b l[lowO l s]!).2 = 0) (hd : (chAcc b l[lowO l s]!).1.call ≠ .empty) : Calls Tryz.prog 110 #[.slice A n c, .string s, .string b] w (YesP (l.set (lowO l s) (chAcc b l[lowO l s]!).1) w) := by
 obtain ⟨W, hW⟩ : ∃ W, (w.alloc (.cells #[.string b] 9)) = W := ⟨_, rfl⟩
 have hb : Below w.heap.size w W := by rw [← hW]; exact (Below.refl _ w).alloc (Nat.le_refl _) _
 have hz : W.heap.size = w.heap.size + 1 := by rw [← hW, size_al']
 have hg : W.cell? ⟨w.heap.size, 0, none⟩ = some (.string b) := by rw [← hW]; exact World.cell?_alloc_new _ _ _ _
 have HK := Lib.hid (cgAcc_ok A l n c s b w.heap.size W (hA.below hb) hok (by omega) hg hi hk hd)
 unfold YesP at HK ⊢
 generalize (l.set (lowO l s) (chAcc b l[lowO l s]!).1) = m at *
 clear hk hd
 clear hg hz hA hok
 have HB := Lib.hid hb
 go_enter Tryz.func110, Tryz.ntmps110
 go_wp2_with (go_at_call 161; go_loud (refine HK.out.mono ?_; rintro e w1 ⟨A1, c1, rfl, ho, hb1⟩))
 go_ret2
 exact ⟨A1, c1, rfl, own_mono ho HB.out.size, bstep HB.out hb1⟩
set_option maxRecDepth 100000 in
set_option maxHeartbeats 4000000 in
theorem End_none (A : Option Addr) (l : List Ow) (n c : Nat) (s b : ByteArray) (w : World) (hA : OwA A n l w) (hok : OwOk l) (hi : isO l s = false) : Calls Tryz.prog 115 #[.slice A n c, .string s, .string b] w (NoP 8 w) := by
 obtain ⟨W, hW⟩ : ∃ W, (w.alloc (.cells #[.string b] 9)) = W := ⟨_, rfl⟩
 have hb : Below w.heap.size w W := by rw [← hW]; exact (Below.refl _ w).alloc (Nat.le_refl _) _
 have hz : W.heap.size = w.heap.size + 1 := by rw [← hW, size_al']
 have hg : W.cell? ⟨w.heap.size, 0, none⟩ = some (.string b) := by rw [← hW]; exact World.cell?_alloc_new _ _ _ _
 have HK := Lib.hid (cgEnd_none A l n c s b w.heap.size W (hA.below hb) hok (by omega) hg hi)
 unfold NoP at HK ⊢
 clear hg hz hA hok
 have HB := Lib.hid hb
 go_enter Tryz.func115, Tryz.ntmps115
 go_wp2_with (go_at_call 161; go_loud (refine HK.out.mono ?_; rintro e w1 ⟨rfl, hb1⟩))
 go_ret2
 exact ⟨rfl, bstep HB.out hb1⟩
set_option maxRecDepth 100000 in
set_option maxHeartbeats 4000000 in
theorem End_bad (A : Option Addr) (l : List Ow) (n c : Nat) (s b : ByteArray) (w : World) (hA : OwA A n l w) (hok : OwOk l) (hi : isO l s = true) (hk : (chEnd b l[lowO l s]!).2 ≠ 0) : Calls Tryz.prog 115 #[.slice A n c, .string s, .string b] w (NoP (chEnd b l[lowO l s]!).2 w) := by
 obtain ⟨W, hW⟩ : ∃ W, (w.alloc (.cells #[.string b] 9)) = W := ⟨_, rfl⟩
 have hb : Below w.heap.size w W := by rw [← hW]; exact (Below.refl _ w).alloc (Nat.le_refl _) _
 have hz : W.heap.size = w.heap.size + 1 := by rw [← hW, size_al']
 have hg : W.cell? ⟨w.heap.size, 0, none⟩ = some (.string b) := by rw [← hW]; exact World.cell?_alloc_new _ _ _ _
 have HK := Lib.hid (cgEnd_bad A l n c s b w.heap.size W (hA.below hb) hok (by omega) hg hi hk)
 unfold NoP at HK ⊢
 generalize (chEnd b l[lowO l s]!).2 = k at *
 clear hg hz hA hok
 have HB := Lib.hid hb
 go_enter Tryz.func115, Tryz.ntmps115
 go_wp2_with (go_at_call 161; go_loud (refine HK.out.mono ?_; rintro e w1 ⟨rfl, hb1⟩))
 go_ret2
 exact ⟨rfl, bstep HB.out hb1⟩
set_option maxRecDepth 100000 in
set_option maxHeartbeats 4000000 in
theorem End_ok (A : Option Addr) (l : List Ow) (n c : Nat) (s b : ByteArray) (w : World) (hA : OwA A n l w) (hok : OwOk l) (hi : isO l s = true) (hk : (chEnd b l[lowO l s]!).2 = 0) (hd : (chEnd b l[lowO l s]!).1.call = .empty) : Calls Tryz.prog 115 #[.slice A n c, .string s, .string b] w (YesP (l.take (lowO l s) ++ l.drop (lowO l s + 1)) w) := by
 obtain ⟨W, hW⟩ : ∃ W, (w.alloc (.cells #[.string b] 9)) = W := ⟨_, rfl⟩
 have hb : Below w.heap.size w W := by rw [← hW]; exact (Below.refl _ w).alloc (Nat.le_refl _) _
 have hz : W.heap.size = w.heap.size + 1 := by rw [← hW, size_al']
 have hg : W.cell? ⟨w.heap.size, 0, none⟩ = some (.string b) := by rw [← hW]; exact World.cell?_alloc_new _ _ _ _
 have HK := Lib.hid (cgEnd_ok A l n c s b w.heap.size W (hA.below hb) hok (by omega) hg hi hk hd)
 unfold YesP at HK ⊢
 generalize (l.take (lowO l s) ++ l.drop (lowO l s + 1)) = m at *
 clear hk hd
 clear hg hz hA hok
 have HB := Lib.hid hb
 go_enter Tryz.func115, Tryz.ntmps115
 go_wp2_with (go_at_call 161; go_loud (refine HK.out.mono ?_; rintro e w1 ⟨A1, c1, rfl, ho, hb1⟩))
 go_ret2
 exact ⟨A1, c1, rfl, own_mono ho HB.out.size, bstep HB.out hb1⟩
end
end Go.Proofs.YtaebebpldkciiaaGreatDoor
