/- Contracts and plain words, part 11: texts U10, CloneFl, CloneTu, U18, U19, CloneEn. -/
import Derived.Test.YtaebebpldkciiaaGreatDoorQG10
import Derived.Test.YtaebebpldkciiaaGreatDoorQG05
namespace Go.Proofs.YtaebebpldkciiaaGreatDoor
section
open Go.RowKit
section
variable {F G : Nat → Prop} {g : Nat} {S : Su} {c : Ce} {y : Lay} {w W W' : World}
theorem Clean.tu {dirty : Nat → Prop} (hk : Clean F dirty W W') {x : Hd} {l : Tu} (h : TuM F x l W) : TuM F x l W' :=
 ⟨h.1, h.2.stay fun k he => by
  obtain ⟨cur, hc⟩ := h.2.blk he
  exact hk.2 k cur 52 (h.2.2 k he) hc (by decide) (by decide) (fun e => absurd e (by decide))⟩
theorem rowsH_snoc (ts : List Hd) (x : Hd) : rowsV hdV ts ++ [.slice x.A x.n x.c] = rowsV hdV (ts ++ [x]) := by rw [rowsV_snoc]; rfl
end
theorem hear_fin {F : Nat → Prop} {g : Nat} {S : Su} {c : Ce} {y : Lay} {w W4 w3 : World} (x : Inp) (hM : CeM F g S c y W4) (hbd : ∀ b, F b → b < w.heap.size) (hW : Below w.heap.size w W4) (p : Nat) (hp : p < c.fl.length) (hpe : lowO c.ow x.call = p) {b : Nat} (hA : y.fh.A = some ⟨b, 0, none⟩) (xf : Fm) (hxf : y.fs[p]! = xf)
  (g3 cap3 : Nat) (hown : w3.ownsRow 0 44 1 (.slice (some ⟨g3, 0, none⟩) (xf.ln + 1) cap3) (xf.ln + 1) (rowsV hdV y.ts[p]! ++ [.slice xf.na xf.nn xf.nc])) (hg : W4.grownBy w3 (Value.slice xf.la xf.ln xf.lc).ownBlock)
  (hat : (Value.slice xf.la xf.ln xf.lc).ownBlock = some g3 ∨ W4.heap.size ≤ g3) (hlt : g3 < w3.heap.size) :
  MethP F g S w (setF c x (hearF c x), 0) (.returned (.int .i64 0)) ((((w3.setCell ⟨b, p * 8 + 4, none⟩ (.slice (some ⟨g3, 0, none⟩) (xf.ln + 1) cap3)).setCell ⟨b, p * 8 + 6, none⟩ (.int .i64 xf.nland)).setCell ⟨b, p * 8 + 5, none⟩ (.slice none 0 0)).setCell ⟨b, p * 8 + 7, none⟩ (.int .i64 0)) := by
 obtain ⟨b', hA', hFb, hbl, cur, hbc⟩ := hM.fblk (by omega)
 rw [hA] at hA'; cases hA'
 have hFl := hM.fl p hp
 rw [hxf] at hFl
 have hne : (Value.slice xf.la xf.ln xf.lc).ownBlock ≠ some b := hFl.legs.other hbc (by decide)
 have hzW := hW.size
 have hb3 : w3.heap[b]? = W4.heap[b]? := hg.block b hbl (fun e => hne e.symm)
 have hg3 : w3.heap[g]? = W4.heap[g]? := hg.block g (hM.bd g hM.fg) (fun e => hFl.legs.other hM.cs (by decide) e.symm)
 have hrow3 : w3.ownsRow 0 46 8 (.slice (some ⟨b, 0, none⟩) c.fl.length y.fh.c) c.fl.length (rowsV fmV y.fs) := (hM.fown' hA).kept hg (.inr (fun e => hne (by rw [← e]; rfl)))
 have hcl3 : Clean F (fun k => (Value.slice xf.la xf.ln xf.lc).ownBlock = some k) W4 w3 := Clean.grown hg (fun k hk => by
  obtain ⟨cur, hc⟩ := hFl.legs.blk hk
  exact ⟨cur, 44, hc, .inr (.inr ⟨rfl, hk⟩)⟩)
 obtain ⟨x', hx'⟩ : ∃ x' : Fm, x' = { xf with la := some ⟨g3, 0, none⟩, ln := xf.ln + 1, lc := cap3, na := none, nn := 0, nc := 0, land := xf.nland, nland := 0 } := ⟨_, rfl⟩
 obtain ⟨s1, s2, s3, s4, s5⟩ := row_sets (F := F) (dirty := fun k => (Value.slice xf.la xf.ln xf.lc).ownBlock = some k) hrow3 hM.fn p hp [(4, .slice (some ⟨g3, 0, none⟩) (xf.ln + 1) cap3), (6, .int .i64 xf.nland), (5, .slice none 0 0), (7, .int .i64 0)] x'
  (by intro u hu; simp only [List.mem_cons, List.not_mem_nil, or_false] at hu; rcases hu with rfl | rfl | rfl | rfl <;> simp) (by rw [hxf, hx']; rfl)
 simp only [List.foldl_cons, List.foldl_nil] at s1 s2 s3 s4 s5
 obtain ⟨W', hW'⟩ : ∃ W', (((w3.setCell ⟨b, p * 8 + 4, none⟩ (.slice (some ⟨g3, 0, none⟩) (xf.ln + 1) cap3)).setCell ⟨b, p * 8 + 6, none⟩ (.int .i64 xf.nland)).setCell ⟨b, p * 8 + 5, none⟩ (.slice none 0 0)).setCell ⟨b, p * 8 + 7, none⟩ (.int .i64 0) = W' := ⟨_, rfl⟩
 rw [hW'] at s1 s2 s3 s4 s5 ⊢
 have hcl : Clean F (fun k => (Value.slice xf.la xf.ln xf.lc).ownBlock = some k) W4 W' := hcl3.trans s4
 have hz3 := hg.size
 have hflo : flOf c x = c.fl[p]! := by unfold flOf; rw [hpe]
 have hgb : g3 ≠ b := fun e => by
  obtain ⟨cur', hc'⟩ := (show OwnF (fun _ => True) w3 44 1 (.slice (some ⟨g3, 0, none⟩) (xf.ln + 1) cap3) (xf.ln + 1) (rowsV hdV y.ts[p]! ++ [.slice xf.na xf.nn xf.nc]) from ⟨hown, fun _ _ => trivial⟩).blk rfl
  rw [e, hb3, hbc] at hc'
  cases hc'
 refine ⟨rfl, fun k => F k ∨ (w.heap.size ≤ k ∧ k < w3.heap.size), ?_, ?_, fun k hk => hk.elim .inl (fun h => .inr h.1)⟩
 ·have hS : (setF c x (hearF c x), (0 : Int)).1 = { c with fl := c.fl.set p (hearF c x) } := by unfold setF; rw [hpe]
  rw [hS]
  refine CeM.at_ (y := { y with fs := y.fs.set p x', ts := y.ts.set p (y.ts[p]! ++ [⟨xf.na, xf.nn, xf.nc⟩]) }) ?_
  refine hM.setFl (fun _ h => .inl h) p hp x' _ (hearF c x) hcl (fun k hk => hk.elim (fun h => by have := hbd k h; omega) (fun h => by omega)) ((s3 g (hM.gne hbc)).trans hg3) ?_ ?_ (fun i k hi hip hk => ?_) (fun i k hi hip hk => ?_)
  ·have e : y.fh.v = .slice (some ⟨b, 0, none⟩) c.fl.length y.fh.c := by unfold Hd.v; rw [hA, hM.fh]
   rw [e]; exact s5
  ·rw [hx']
   have hln := hFl.ln
   have hlegs : (hearF c x).legs = c.fl[p]!.legs ++ [c.fl[p]!.next] := by unfold hearF; rw [hflo]
   have htl := hFl.tl
   refine ⟨hFl.call.trans (by unfold hearF; rw [hflo]), hFl.wake.trans (by unfold hearF; rw [hflo]), hFl.slot.trans (by unfold hearF; rw [hflo]), hFl.lands.trans (by unfold hearF; rw [hflo]), hFl.nland.trans (by unfold hearF; rw [hflo]), rfl, by rw [hlegs, List.length_append, ← hln]; rfl, by rw [hlegs, List.length_append, List.length_append, htl]; rfl, ⟨?_, fun k hk => ?_⟩, fun j hj => ?_, TuM.nil _ _⟩
   ·have hst : OwnF (fun _ => True) W' 44 1 (.slice (some ⟨g3, 0, none⟩) (xf.ln + 1) cap3) (xf.ln + 1) (rowsV hdV y.ts[p]! ++ [.slice xf.na xf.nn xf.nc]) := (show OwnF (fun _ => True) w3 44 1 (.slice (some ⟨g3, 0, none⟩) (xf.ln + 1) cap3) (xf.ln + 1) (rowsV hdV y.ts[p]! ++ [.slice xf.na xf.nn xf.nc]) from ⟨hown, fun _ _ => trivial⟩).stay (fun k hk => s3 k (fun e => hgb (by have e2 : g3 = k := (by simpa [Value.ownBlock] using hk); omega)))
    have h2 := hst.1
    rw [rowsH_snoc y.ts[p]! ⟨xf.na, xf.nn, xf.nc⟩] at h2
    rw [hlegs, List.length_append, List.length_singleton, ← hln]
    exact h2
   ·have hk' : g3 = k := by simpa [Value.ownBlock] using hk
    subst hk'
    rcases hat with hat | hat
    ·exact .inl (hFl.legs.2 _ hat)
    ·exact .inr ⟨by omega, hlt⟩
   ·rw [hlegs, List.length_append, List.length_singleton] at hj
    rw [hlegs, snoc_at, snoc_at]
    by_cases hjl : j = (c.fl[p]!).legs.length
    ·rw [if_pos (by rw [htl]; exact hjl), if_pos hjl]
     have ht := hcl.tu hFl.next
     exact ⟨ht.1, ht.2.mono (fun _ h => .inl h)⟩
    ·rw [if_neg (by rw [htl]; exact hjl), if_neg hjl]
     have ht := hcl.tu (hFl.leg j (by omega))
     exact ⟨ht.1, ht.2.mono (fun _ h => .inl h)⟩
  ·have ha := hM.apart i p k hi hp hip hk
   rw [hxf] at ha
   exact ha
  ·intro hk2
   rw [hx'] at hk
   have hk' : g3 = k := by simpa [Value.ownBlock] using hk
   subst hk'
   rcases hat with hat | hat
   ·have ha := hM.apart i p g3 hi hp hip hk2
    rw [hxf] at ha
    exact ha hat
   ·have := ((hM.fl i hi).legs.1.lt g3 hk2).2
    omega
 ·have ho : Off F w w3 := (Off.of_below hW).trans' ((Off.grown (F := F) hg (fun k hk => hFl.legs.2 k hk)))
  rw [← hW']
  exact (((ho.setCell (p := ⟨b, p * 8 + 4, none⟩) (.inl hFb) _).setCell (p := ⟨b, p * 8 + 6, none⟩) (.inl hFb) _).setCell (p := ⟨b, p * 8 + 5, none⟩) (.inl hFb) _).setCell (p := ⟨b, p * 8 + 7, none⟩) (.inl hFb) _
set_option maxRecDepth 100000 in
set_option maxHeartbeats 16000000 in
theorem hear_any {F : Nat → Prop} {g : Nat} {S : Su} {c : Ce} {y : Lay} {w : World} (h : CeM F g S c y w) (hok : CeOk c) (x : Inp) (A : Option Addr) (n cA : Nat) :
  Calls Tryz.prog 67 #[.pointer (some ⟨g, 0, none⟩), inpV x A n cA] w (MethP F g S w (if hearE c x = 0 then (setF c x (hearF c x), 0) else (c, hearE c x))) := by
 obtain ⟨V, hV⟩ : ∃ V, w.alloc (inpO x A n cA) = V := ⟨_, rfl⟩
 have hbV : Below w.heap.size w V := by rw [← hV]; exact (Below.refl _ _).alloc (Nat.le_refl _) _
 have hzV : V.heap.size = w.heap.size + 1 := by rw [← hV, size_al]
 have hgB : V.heap[w.heap.size]? = some (inpO x A n cA) := by rw [← hV]; exact heap_alloc_new _ _
 have hMV := h.below hbV
 have HV := Lib.hid hV
 have HBV := Lib.hid hbV
 have x2 : V.cell? ⟨w.heap.size, 2, none⟩ = some (.string x.call) := cell_of_row _ _ 2 _ _ _ hgB
 have HX1 := Lib.hid (fun (W : World) (hb : Below V.heap.size V W) => (show W.cell? ⟨w.heap.size, 1, none⟩ = some (.int .i64 x.time) from cell_of_row _ _ 1 _ _ _ ((hb.block _ (by omega)).trans hgB)))
 have HM := Lib.hid (fun (W : World) (hb : Below V.heap.size V W) => hMV.below hb)
 unfold inpV
 unfold inpO at hV HV
 by_cases h1 : isO c.ow x.call = false
 ·have HE : Hid (hearE c x = 8) := Lib.hid (by unfold hearE; rw [if_pos h1])
  rw [HE.out, if_neg (by decide)]
  have HC := Lib.hid (cleared_none hMV hok x.call h1)
  unfold ClP at HC
  clear hMV h hok h1 hgB hbV hzV
  go_enter Tryz.func67, Tryz.ntmps67
  go_wp2_with (go_at_call 114; go_loud (refine HC.out.mono ?_; rintro e w1 ⟨rfl, hb1⟩))
  go_ret
  exact ⟨rfl, F, (HM.out _ hb1).at_, Off.of_below (HBV.out.trans (hb1.mono HBV.out.size)), fun _ h => .inl h⟩
 have h1' : isO c.ow x.call = true := by simpa using h1
 by_cases h2 : (flOf c x).next.length = 0
 ·have HE : Hid (hearE c x = 11) := Lib.hid (by unfold hearE; rw [if_neg h1, if_pos h2])
  rw [HE.out, if_neg (by decide)]
  have HC := Lib.hid (cleared_state hMV hok x.call h1' h2)
  unfold ClP at HC
  clear hMV h hok h1 h1' h2 hgB hbV hzV
  go_enter Tryz.func67, Tryz.ntmps67
  go_wp2_with (go_at_call 114; go_loud (refine HC.out.mono ?_; rintro e w1 ⟨rfl, hb1⟩))
  go_ret
  exact ⟨rfl, F, (HM.out _ hb1).at_, Off.of_below (HBV.out.trans (hb1.mono HBV.out.size)), fun _ h => .inl h⟩
 have h2' : 0 < (flOf c x).next.length := by omega
 obtain ⟨p1, p2, p3⟩ := hMV.at_low hok x.call h1'
 obtain ⟨b, hA, hFb, hbl, hbc⟩ := hMV.fblk (by omega)
 have HC := Lib.hid (cleared_ok hMV hok x.call h1' (by unfold flOf at h2; omega) b hA)
 unfold ClP at HC
 have HFok := Lib.hid (flOf_mem hok h1').2.2
 have HFb := Lib.hid hFb
 have HA := Lib.hid hA
 have HP := Lib.hid p1
 have HCe := Lib.hid (fun (W : World) (hb : Below V.heap.size V W) (q : Nat) (hq : q < 8) => (hMV.below hb).fcell hA (lowO c.ow x.call) p1 q hq)
 have HS : Hid (setF c x (hearF c x) = { c with fl := c.fl.set (lowO c.ow x.call) (hearF c x) }) := Lib.hid rfl
 have HFo : Hid (flOf c x = c.fl[lowO c.ow x.call]!) := Lib.hid rfl
 have HEq : Hid (hearE c x = if fstT (flOf c x).next ≤ x.time then 12 else 0) := Lib.hid (by unfold hearE; rw [if_neg h1, if_neg h2])
 have HFl := Lib.hid (fun (W : World) (hb : Below V.heap.size V W) => (hMV.below hb).fl _ p1)
 have HBd := Lib.hid (show b < V.heap.size from hbl)
 have HBc := Lib.hid hbc
 have HNx := Lib.hid h2'
 have HFb0 := Lib.hid h.bd
 have HZV := Lib.hid hzV
 obtain ⟨p, hp⟩ : ∃ p, lowO c.ow x.call = p := ⟨_, rfl⟩
 rw [hp] at HC HCe HS HP HFo HFl
 have HPe := Lib.hid hp
 obtain ⟨xf, hxf⟩ : ∃ xf, y.fs[p]! = xf := ⟨_, rfl⟩
 rw [hxf] at HCe HFl
 have HXf := Lib.hid hxf
 have HFst := Lib.hid (fun (W : World) (hb : Below V.heap.size V W) => (first_any xf.na xf.nn xf.nc (flOf c x).next W (by rw [HFo.out]; exact (HFl.out W hb).next.tua) (by have e : xf.nn = _ := (HFl.out W hb).next.1; rw [e, ← HFo.out]; exact HNx.out)).mono fun e W2 hh => (show e = .returned (.int .i64 (fstT (flOf c x).next)) ∧ Below W.heap.size W W2 from ⟨hh.1, by rw [hh.2]; exact Below.refl _ _⟩))
 obtain ⟨ft, hft⟩ : ∃ ft, fstT (flOf c x).next = ft := ⟨_, rfl⟩
 rw [hft] at HFst HEq
 obtain ⟨fcall, fwake, fslot, flands, la, ln, lc, na, nn, nc, fland, nland⟩ := xf
 dsimp only at HFst
 clear hMV h h1 h1' h2 h2' hgB hbV p1 p2 p3 hbl hbc hFb hA hp hxf hft hzV
 by_cases hle : ft ≤ x.time
 ·have e1 : decide (ft ≤ x.time) = true := decide_eq_true hle
  have e2 : decide (x.time < ft) = false := decide_eq_false (by omega)
  rw [if_pos hle] at HEq
  rw [HEq.out, if_neg (by decide)]
  clear hle
  go_enter Tryz.func67, Tryz.ntmps67
  go_upto_region 4 with (go_at_call 114; go_loud (refine HC.out.mono ?_; rintro e w1 ⟨rfl, hb1⟩; have HB1 := Lib.hid hb1; clear hb1))
  have k5 := (HCe.out w1 HB1.out 5 (by decide)).1
  simp only [fmV, List.getElem?_cons_succ, List.getElem?_cons_zero] at k5
  have r5 := cell_regrown k5
  have r1 := cell_regrown (HX1.out w1 HB1.out)
  clear k5 x2
  refine wp_region_quiet_below (by kernel_rfl) (by kernel_rfl) ?_
  repeat (go_big_quiet_step ((go_at_call 82; exact (HFst.out _ (HB1.out.trans ((below_regrown w1 _ _).mono HB1.out.size))).regrown_of)))
  refine wpQuiet_nil ?_
  intro W4 hwz
  have hbz : Below V.heap.size V W4 := by obtain ⟨⟨dq, osq⟩, rfl⟩ := hwz; exact HB1.out.trans ((below_regrown w1 _ _).mono HB1.out.size)
  have HB4 := Lib.hid hbz
  clear hwz hbz r5 r1
  go_wp2_with fail
  go_ret
  exact ⟨rfl, F, (HM.out _ HB4.out).at_, Off.of_below (HBV.out.trans (HB4.out.mono HBV.out.size)), fun _ h => .inl h⟩
 ·have e1 : decide (ft ≤ x.time) = false := decide_eq_false hle
  have e2 : decide (x.time < ft) = true := decide_eq_true (by omega)
  rw [if_neg hle] at HEq
  rw [HEq.out, if_pos rfl]
  clear hle
  go_enter Tryz.func67, Tryz.ntmps67
  go_upto_region 4 with (go_at_call 114; go_loud (refine HC.out.mono ?_; rintro e w1 ⟨rfl, hb1⟩; have HB1 := Lib.hid hb1; clear hb1))
  have k5 := (HCe.out w1 HB1.out 5 (by decide)).1
  simp only [fmV, List.getElem?_cons_succ, List.getElem?_cons_zero] at k5
  have r5 := cell_regrown k5
  have r1 := cell_regrown (HX1.out w1 HB1.out)
  clear k5 x2
  refine wp_region_quiet_below (by kernel_rfl) (by kernel_rfl) ?_
  repeat (go_big_quiet_step ((go_at_call 82; exact (HFst.out _ (HB1.out.trans ((below_regrown w1 _ _).mono HB1.out.size))).regrown_of)))
  refine wpQuiet_nil ?_
  intro W4 hwz
  have hbz : Below V.heap.size V W4 := by obtain ⟨⟨dq, osq⟩, rfl⟩ := hwz; exact HB1.out.trans ((below_regrown w1 _ _).mono HB1.out.size)
  have HB4 := Lib.hid hbz
  clear hwz hbz r5 r1
  obtain ⟨i33, J0, J1, J2, J3⟩ := info_parts CloneLg_info
  have c4 := (HCe.out W4 HB4.out 4 (by decide)).1
  have f4 := (HCe.out W4 HB4.out 4 (by decide)).2
  have c5 := (HCe.out W4 HB4.out 5 (by decide)).1
  simp only [fmV, List.getElem?_cons_succ, List.getElem?_cons_zero] at c4 c5
  have hl4 : b < W4.heap.size := by have := HB4.out.size; have := HBd.out; omega
  have ca4 : ∀ q o, ((W4.drewN q).alloc o).cell? ⟨b, p * 8 + 4, none⟩ = some (.slice la ln lc) := fun q o => (World.cell?_of_block (a := ⟨b, p * 8 + 4, none⟩) ((World.grownBy_alloc (W4.drewN q) o none).block b hl4 (by simp))).trans c4
  have HLr := Lib.hid (HFl.out W4 HB4.out).legs
  have hln : ln = (c.fl[p]!).legs.length := (HFl.out W4 HB4.out).ln
  have hl6 : ln ≤ 6 := by rw [hln, ← HFo.out]; exact HFok.out.n1
  have HLn := Lib.hid hln
  have HLo : Hid (W4.ownsRow 0 44 1 (.slice la ln lc) ln (rowsV hdV y.ts[p]!)) := Lib.hid (by have := HLr.out.1; rw [← hln] at this; exact this)
  have HB4b : Hid (∃ cur, W4.heap[b]? = some (.cells cur 46 (0, 0))) := Lib.hid (by obtain ⟨cur, hc⟩ := HBc.out; exact ⟨cur, (HB4.out.block b HBd.out).trans hc⟩)
  have HNeB : Hid ((Value.slice la ln lc).ownBlock ≠ some b) := Lib.hid (by obtain ⟨cur, hc⟩ := HB4b.out; exact HLr.out.other hc (by decide))
  clear hln
  have hM4 := HM.out W4 HB4.out
  have HFIN := Lib.hid (fun (w3 : World) => hear_fin (w := w) (w3 := w3) x hM4 HFb0.out (HBV.out.trans (HB4.out.mono HBV.out.size)) p HP.out HPe.out HA.out _ HXf.out)
  dsimp only at HFIN
  have c7 := (HCe.out W4 HB4.out 7 (by decide)).1
  simp only [fmV, List.getElem?_cons_succ, List.getElem?_cons_zero] at c7
  have C4 := Lib.hid c4
  have C5 := Lib.hid c5
  have C7 := Lib.hid c7
  have c6 := (HCe.out W4 HB4.out 6 (by decide)).1
  simp only [fmV, List.getElem?_cons_succ, List.getElem?_cons_zero] at c6
  have C6 := Lib.hid c6
  have FR := Lib.hid (fun q hq => (HCe.out W4 HB4.out q hq).2)
  clear c7 c6 hM4
  go_upto_region 6 with (fail)
  go_region_law (refine step_append_row _ #[.slice na nn nc] W4.heap.size rfl (.tmp 29) (.tmp 34) 42 rfl 0 44 i33 _ 1 24 Tryz.underlying42 J0 J1 J2 J3 rfl (by decide) (.slice la ln lc) ln (rowsV hdV y.ts[p]!) rfl (HLo.out.alloc _) rfl (by simp [Value.oneCell']) (by exact heap_alloc_new W4 _) rfl (by omega) (by omega) (by simp) ?_; intro g3 cap3 w3 hown3 hg3 hat3 hlt3; have hb3 : w3.heap[b]? = W4.heap[b]? := (hg3.block b (by exact Nat.lt_of_lt_of_le hl4 (World.grownBy_alloc W4 _ none).size) (fun e => HNeB.out e.symm)).trans ((World.grownBy_alloc W4 _ none).block b hl4 (by simp)); have d4 := (World.cell?_of_block (a := ⟨b, p * 8 + 4, none⟩) hb3).trans C4.out; have e4 := (World.frozen?_of_block (a := ⟨b, p * 8 + 4, none⟩) hb3).trans (FR.out 4 (by decide)); have d5 := (World.cell?_of_block (a := ⟨b, p * 8 + 5, none⟩) hb3).trans C5.out; have e5 := (World.frozen?_of_block (a := ⟨b, p * 8 + 5, none⟩) hb3).trans (FR.out 5 (by decide)); have d6 := (World.cell?_of_block (a := ⟨b, p * 8 + 6, none⟩) hb3).trans C6.out; have e6 := (World.frozen?_of_block (a := ⟨b, p * 8 + 6, none⟩) hb3).trans (FR.out 6 (by decide)); have d7 := (World.cell?_of_block (a := ⟨b, p * 8 + 7, none⟩) hb3).trans C7.out; have e7 := (World.frozen?_of_block (a := ⟨b, p * 8 + 7, none⟩) hb3).trans (FR.out 7 (by decide)))
  all_goals go_wp2_with fail
  all_goals go_ret
  all_goals
   have hgr : W4.grownBy w3 (Value.slice la ln lc).ownBlock := grown_trans (grown_trans (grown_drewN ⟨rfl, rfl, rfl, Nat.le_refl _, fun _ _ _ => rfl⟩ _) (World.grownBy_alloc _ _ _)) hg3
   exact HFIN.out w3 g3 cap3 (by exact hown3) hgr (by exact hat3.imp id (fun e => by rw [e]; simp)) hlt3
end
section
open Go.RowKit
theorem CloneFl_info : (Tryz.prog.info? 46).map (fun i => (i.zero, i.size, i.bytes)) = some (some (.agg #[.string ByteArray.empty, .int .i64 0, .int .i64 0, .bool false, .slice none 0 0, .slice none 0 0, .int .i64 0, .int .i64 0]), 8, 104) := by kernel_rfl
set_option maxHeartbeats 1000000 in
theorem CloneFl_any (A : Option Addr) (n c : Nat) (row : Nat → List Value) (w : World) (hA : Sl w w.heap.size 8 A n row) (hl : ∀ i, i < n → (row i).length = 8) (h1 : ∀ i, i < n → ∀ u ∈ row i, u.oneCell' = true)
  (hnil : A = none → n = 0) (hn : n ≤ maxLen) (hby : n * 104 ≤ 140737488355328) :
  Calls Tryz.prog 44 #[.slice A n c] w fun e w' => ∃ v, e = .returned v ∧ w'.ownsRow w.heap.size 46 8 v n (flatR row n) ∧ Below w.heap.size w w' := by
 cases A with
 | none =>
  obtain rfl := hnil rfl
  have hk := fun (W : World) => Lib.run_eql_slice_nil (P := Tryz.prog) W 40 46 none 0 c 0 0 Tryz.underlying40
  go_enter Tryz.func44, Tryz.ntmps44
  go_wp2
  go_ret
  exact ⟨_, rfl, World.ownsRow_nil _ _ _ _, Below.refl _ _⟩
 | some ad =>
  have hk := fun (W : World) => Lib.run_eql_slice_nil (P := Tryz.prog) W 40 46 (some ad) n c 0 0 Tryz.underlying40
  obtain ⟨i0, J0, J1, J2, J3⟩ := info_parts CloneFl_info
  have hbn : Below w.heap.size w (w.alloc (.cells #[] 46)) := (Below.refl _ _).alloc (Nat.le_refl _) _
  have hnews := Sl_news (by decide) (hA.below hbn) rfl hl
  have hlen := flatR_len n hl
  have hone : ∀ u ∈ flatR row n, u.oneCell' = true := fun u hu => by
   obtain ⟨i, hi, hu⟩ := flatR_mem hu
   exact h1 i hi u hu
  have HN := Lib.hid hnews
  have HL := Lib.hid hlen
  have HO := Lib.hid hone
  clear hnews hlen hone h1 hl
  go_enter Tryz.func44, Tryz.ntmps44
  go_wp2_with (at_builtin; refine wpList_append_own _ rfl (.tmp 5) (.tmp 6) 40 rfl w.heap.size 46 i0 _ 8 104 Tryz.underlying40 J0 J1 J2 J3 rfl (by decide) (.slice (some ⟨w.heap.size, 0, none⟩) 0 0) 0 [] rfl (World.ownsRow_made w #[] 0 (Nat.le_refl _) (by decide) rfl) ad n c (flatR row n) rfl HL.out HN.out HO.out (by omega) (by omega) (by simp) ?_; intro v' w' hown hg hni)
  go_ret
  refine ⟨_, rfl, ?_, hbn.grown hg hbn.size (fun k hk => by simp [Value.ownBlock] at hk; omega)⟩
  rw [Nat.zero_add, List.nil_append] at hown
  exact hown
end
section
open Go.RowKit
theorem CloneTu_info : (Tryz.prog.info? 52).map (fun i => (i.zero, i.size, i.bytes)) = some (some (.agg #[.int .i64 0, .int .i64 0, .int .i64 0, .int .i64 0, .int .i64 0, .int .i64 0]), 6, 48) := by kernel_rfl
set_option maxHeartbeats 1000000 in
theorem CloneTu_any (A : Option Addr) (n c : Nat) (row : Nat → List Value) (w : World) (hA : Sl w w.heap.size 6 A n row) (hl : ∀ i, i < n → (row i).length = 6) (h1 : ∀ i, i < n → ∀ u ∈ row i, u.oneCell' = true)
  (hnil : A = none → n = 0) (hn : n ≤ maxLen) (hby : n * 48 ≤ 140737488355328) :
  Calls Tryz.prog 46 #[.slice A n c] w fun e w' => ∃ v, e = .returned v ∧ w'.ownsRow w.heap.size 52 6 v n (flatR row n) ∧ Below w.heap.size w w' := by
 cases A with
 | none =>
  obtain rfl := hnil rfl
  have hk := fun (W : World) => Lib.run_eql_slice_nil (P := Tryz.prog) W 44 52 none 0 c 0 0 Tryz.underlying44
  go_enter Tryz.func46, Tryz.ntmps46
  go_wp2
  go_ret
  exact ⟨_, rfl, World.ownsRow_nil _ _ _ _, Below.refl _ _⟩
 | some ad =>
  have hk := fun (W : World) => Lib.run_eql_slice_nil (P := Tryz.prog) W 44 52 (some ad) n c 0 0 Tryz.underlying44
  obtain ⟨i0, J0, J1, J2, J3⟩ := info_parts CloneTu_info
  have hbn : Below w.heap.size w (w.alloc (.cells #[] 52)) := (Below.refl _ _).alloc (Nat.le_refl _) _
  have hnews := Sl_news (by decide) (hA.below hbn) rfl hl
  have hlen := flatR_len n hl
  have hone : ∀ u ∈ flatR row n, u.oneCell' = true := fun u hu => by
   obtain ⟨i, hi, hu⟩ := flatR_mem hu
   exact h1 i hi u hu
  have HN := Lib.hid hnews
  have HL := Lib.hid hlen
  have HO := Lib.hid hone
  clear hnews hlen hone h1 hl
  go_enter Tryz.func46, Tryz.ntmps46
  go_wp2_with (at_builtin; refine wpList_append_own _ rfl (.tmp 5) (.tmp 6) 44 rfl w.heap.size 52 i0 _ 6 48 Tryz.underlying44 J0 J1 J2 J3 rfl (by decide) (.slice (some ⟨w.heap.size, 0, none⟩) 0 0) 0 [] rfl (World.ownsRow_made w #[] 0 (Nat.le_refl _) (by decide) rfl) ad n c (flatR row n) rfl HL.out HN.out HO.out (by omega) (by omega) (by simp) ?_; intro v' w' hown hg hni)
  go_ret
  refine ⟨_, rfl, ?_, hbn.grown hg hbn.size (fun k hk => by simp [Value.ownBlock] at hk; omega)⟩
  rw [Nat.zero_add, List.nil_append] at hown
  exact hown
end
section
open Go.RowKit
structure CpX (F : Nat → Prop) (v : Hd) (xs : List Fm) (ts : List (List Hd)) (fl : List Fl) (w : World) : Prop where
 n : v.n = fl.length
 xn : xs.length = fl.length
 own : OwnF F w 46 8 v.v fl.length (rowsV fmV xs)
 fl : ∀ i, i < fl.length → FlM F xs[i]! ts[i]! fl[i]! w
def CpM (F : Nat → Prop) (v : Hd) (fl : List Fl) (w : World) : Prop := ∃ xs ts, CpX F v xs ts fl w
theorem CpX.kept {F : Nat → Prop} {v : Hd} {xs : List Fm} {ts : List (List Hd)} {fl : List Fl} {w w' : World} (h : CpX F v xs ts fl w) (hk : Kept F w w') : CpX F v xs ts fl w' :=
 ⟨h.n, h.xn, h.own.kept hk, fun i hi => (h.fl i hi).kept hk⟩
theorem CpM.kept {F : Nat → Prop} {v : Hd} {fl : List Fl} {w w' : World} (h : CpM F v fl w) (hk : Kept F w w') : CpM F v fl w' := by
 obtain ⟨xs, ts, h⟩ := h
 exact ⟨xs, ts, h.kept hk⟩
theorem CpX.mono {F G : Nat → Prop} {v : Hd} {xs : List Fm} {ts : List (List Hd)} {fl : List Fl} {w : World} (h : CpX F v xs ts fl w) (hs : ∀ k, F k → G k) : CpX G v xs ts fl w :=
 ⟨h.n, h.xn, h.own.mono hs, fun i hi => (h.fl i hi).mono hs⟩
theorem CpM.mono {F G : Nat → Prop} {v : Hd} {fl : List Fl} {w : World} (h : CpM F v fl w) (hs : ∀ k, F k → G k) : CpM G v fl w := by
 obtain ⟨xs, ts, h⟩ := h
 exact ⟨xs, ts, h.mono hs⟩
theorem TuM.kept {F : Nat → Prop} {x : Hd} {l : Tu} {w w' : World} (h : TuM F x l w) (hk : Kept F w w') : TuM F x l w' := ⟨h.1, h.2.kept hk⟩
theorem CloneTu_of {F : Nat → Prop} {x : Hd} {l : Tu} {w : World} (h : TuM F x l w) (hl : l.length ≤ 64) :
  Calls Tryz.prog 46 #[.slice x.A x.n x.c] w fun e w' => ∃ v : Hd, e = .returned (.slice v.A v.n v.c) ∧ TuM (fun k => w.heap.size ≤ k) v l w' ∧ Below w.heap.size w w' := by
 have hn := h.1
 refine (CloneTu_any x.A x.n x.c (fun i => ndV l[i]!) w h.tua.2 (fun _ _ => rfl) (fun i _ u hu => ?_) (fun hA => ?_) (by unfold maxLen; omega) (by omega)).mono ?_
 ·simp only [ndV, List.mem_cons, List.not_mem_nil, or_false] at hu
  rcases hu with rfl | rfl | rfl | rfl | rfl | rfl <;> rfl
 ·have h2 := h.2.1
  unfold Hd.v at h2
  rw [hn]; exact (own_nil (n := l.length) (by rw [hn] at h2; exact h2) hA).1
 ·rintro e w' ⟨v, rfl, ho, hb⟩
  rw [hn, ← rowsV_flat (enc := ndV) ndV_len] at ho
  obtain ⟨A', c', rfl⟩ := own_shape ho
  exact ⟨⟨A', l.length, c'⟩, rfl, ⟨rfl, own_mono ho (Nat.zero_le _), fun k hk => (ho.lt k hk).1⟩, hb⟩
theorem CloneLg_of {F : Nat → Prop} {la : Option Addr} {ln lc m : Nat} {ts : List Hd} {w : World} (h : OwnF F w 44 1 (.slice la ln lc) m (rowsV hdV ts)) (hn : ln = m) (ht : ts.length = m) (h0 : 0 < m) (h6 : m ≤ 6) :
  Calls Tryz.prog 45 #[.slice la ln lc] w fun e w' => ∃ b2 c2 : Nat, e = .returned (.slice (some ⟨b2, 0, none⟩) m c2) ∧ w'.ownsRow w.heap.size 44 1 (.slice (some ⟨b2, 0, none⟩) m c2) m (rowsV hdV ts) ∧ Below w.heap.size w w' := by
 subst hn
 have h2 := h.1
 refine (CloneLg_any la ln lc (fun i => hdV ts[i]!) w (Sl_rows hdV_len h2 ht (by decide)) (fun _ _ => rfl) (fun i _ u hu => ?_) (fun hA => (own_nil h2 hA).1) (by unfold maxLen; omega) (by omega)).mono ?_
 ·simp only [hdV, List.mem_singleton] at hu
  rw [hu]; rfl
 ·rintro e w' ⟨v, rfl, ho, hb⟩
  obtain ⟨b2, c2, rfl, _⟩ := ho.form h0
  refine ⟨b2, c2, rfl, ?_, hb⟩
  rw [show rowsV hdV ts = flatR (fun i => hdV ts[i]!) ts.length from rowsV_flat (enc := hdV) hdV_len ts, ht]
  exact ho
theorem CloneFl_of {F : Nat → Prop} {g : Nat} {S : Su} {c : Ce} {y : Lay} {w : World} (h : CeM F g S c y w) (hok : CeOk c) :
  Calls Tryz.prog 44 #[.slice y.fh.A y.fh.n y.fh.c] w fun e w' => ∃ v : Hd, e = .returned (.slice v.A v.n v.c) ∧ v.n = c.fl.length ∧ w'.ownsRow w.heap.size 46 8 (.slice v.A v.n v.c) c.fl.length (rowsV fmV y.fs) ∧ Below w.heap.size w w' := by
 have h24 := hok.ow.n
 have hlen := hok.len
 have h2 := h.fown.1
 unfold Hd.v at h2
 rw [← h.fh] at h2
 have hn := h.fh
 refine (CloneFl_any y.fh.A y.fh.n y.fh.c (fun i => fmV y.fs[i]!) w h.sl (fun _ _ => rfl) (fun i _ u hu => ?_) (fun hA => (own_nil h2 hA).1) (by unfold maxLen; omega) (by omega)).mono ?_
 ·simp only [fmV, List.mem_cons, List.not_mem_nil, or_false] at hu
  rcases hu with rfl | rfl | rfl | rfl | rfl | rfl | rfl | rfl <;> rfl
 ·rintro e w' ⟨v, rfl, ho, hb⟩
  rw [hn, ← h.fn, ← rowsV_flat (enc := fmV) fmV_len, h.fn] at ho
  obtain ⟨A', c', rfl⟩ := own_shape ho
  exact ⟨⟨A', c.fl.length, c'⟩, rfl, rfl, ho, hb⟩
section
variable {N b cap : Nat} {y : Lay} {c : Ce} {i : Nat} {xs : List Fm} {ts : List (List Hd)} {W W' : World}
structure CpI (N b cap : Nat) (y : Lay) (c : Ce) (i : Nat) (xs : List Fm) (ts : List (List Hd)) (W : World) : Prop where
 xn : xs.length = c.fl.length
 tn : ts.length = c.fl.length
 own : OwnF (fun k => N ≤ k) W 46 8 (.slice (some ⟨b, 0, none⟩) c.fl.length cap) c.fl.length (rowsV fmV xs)
 done : ∀ j, j < i → FlM (fun k => N ≤ k) xs[j]! ts[j]! c.fl[j]! W
 todo : ∀ j, i ≤ j → j < c.fl.length → xs[j]! = y.fs[j]!
structure CpJ (N b cap : Nat) (y : Lay) (c : Ce) (i : Nat) (xs : List Fm) (ts : List (List Hd)) (b2 c2 k : Nat) (hs : List Hd) (W : World) : Prop where
 xn : xs.length = c.fl.length
 tn : ts.length = c.fl.length
 hn : hs.length = (c.fl[i]!).legs.length
 own : OwnF (fun k => N ≤ k) W 46 8 (.slice (some ⟨b, 0, none⟩) c.fl.length cap) c.fl.length (rowsV fmV (xs.set i { y.fs[i]! with la := some ⟨b2, 0, none⟩, lc := c2 }))
 leg : OwnF (fun k => N ≤ k) W 44 1 (.slice (some ⟨b2, 0, none⟩) (c.fl[i]!).legs.length c2) (c.fl[i]!).legs.length (rowsV hdV hs)
 done : ∀ j, j < i → FlM (fun k => N ≤ k) xs[j]! ts[j]! c.fl[j]! W
 ne : ∀ j, j < i → (Value.slice (xs[j]!).la (xs[j]!).ln (xs[j]!).lc).ownBlock ≠ some b2
 tu : ∀ j, j < k → TuM (fun k => N ≤ k) hs[j]! (c.fl[i]!).legs[j]! W
 todo : ∀ j, k ≤ j → j < (c.fl[i]!).legs.length → hs[j]! = (y.ts[i]!)[j]!
 rest : ∀ j, i < j → j < c.fl.length → xs[j]! = y.fs[j]!
theorem OwnF.set {F : Nat → Prop} {e : TypeId} {size n : Nat} {v : Value} {l : List Value} (h : OwnF F W e size v n l) {p : Addr} {t : TypeId} {cur : Array Value} (hp : W.heap[p.block]? = some (.cells cur t (0, 0))) (hne : t ≠ e) (u : Value) : OwnF F (W.setCell p u) e size v n l :=
 h.stay fun k hk => Below.heap_setCell _ _ _ _ (fun e2 => by subst e2; exact h.other hp hne hk)
theorem TuM.set {F : Nat → Prop} {x : Hd} {l : Tu} (h : TuM F x l W) {p : Addr} {t : TypeId} {cur : Array Value} (hp : W.heap[p.block]? = some (.cells cur t (0, 0))) (hne : t ≠ 52) (u : Value) : TuM F x l (W.setCell p u) := ⟨h.1, h.2.set hp hne u⟩
theorem FlM.set {F : Nat → Prop} {x : Fm} {ts : List Hd} {f : Fl} (h : FlM F x ts f W) {p : Addr} {t : TypeId} {cur : Array Value} (hp : W.heap[p.block]? = some (.cells cur t (0, 0))) (h47 : t ≠ 52) (hne : (Value.slice x.la x.ln x.lc).ownBlock ≠ some p.block) (u : Value) : FlM F x ts f (W.setCell p u) :=
 ⟨h.call, h.wake, h.slot, h.lands, h.land, h.nland, h.ln, h.tl, h.legs.stay (fun k hk => Below.heap_setCell _ _ _ _ (fun e2 => by subst e2; exact hne hk)), fun j hj => (h.leg j hj).set hp h47 u, h.next.set hp h47 u⟩
theorem CpI.below (h : CpI N b cap y c i xs ts W) (hb : Below W.heap.size W W') : CpI N b cap y c i xs ts W' :=
 ⟨h.xn, h.tn, h.own.below hb, fun j hj => (h.done j hj).kept (.of_below hb), h.todo⟩
theorem CpJ.below {b2 c2 k : Nat} {hs : List Hd} (h : CpJ N b cap y c i xs ts b2 c2 k hs W) (hb : Below W.heap.size W W') : CpJ N b cap y c i xs ts b2 c2 k hs W' :=
 ⟨h.xn, h.tn, h.hn, h.own.below hb, h.leg.below hb, fun j hj => (h.done j hj).kept (.of_below hb), h.ne, fun j hj => ⟨(h.tu j hj).1, (h.tu j hj).2.below hb⟩, h.todo, h.rest⟩
theorem CpI.cell (h : CpI N b cap y c i xs ts W) (hi : i < c.fl.length) (q : Nat) (hq : q < 8) : W.cell? ⟨b, i * 8 + q, none⟩ = (fmV y.fs[i]!)[q]? ∧ W.frozen? ⟨b, i * 8 + q, none⟩ = false := by
 refine ⟨?_, h.own.1.frozenAt _⟩
 rw [h.own.1.cellAt (i * 8 + q) (by omega), rowsV_at fmV_len xs i (by rw [h.xn]; exact hi) q hq, ← h.todo i (Nat.le_refl _) hi, getElem!_pos xs i (by rw [h.xn]; exact hi)]
theorem CpJ.cell {b2 c2 k : Nat} {hs : List Hd} (h : CpJ N b cap y c i xs ts b2 c2 k hs W) (hi : i < c.fl.length) (q : Nat) (hq : q < 8) : W.cell? ⟨b, i * 8 + q, none⟩ = (fmV { y.fs[i]! with la := some ⟨b2, 0, none⟩, lc := c2 })[q]? ∧ W.frozen? ⟨b, i * 8 + q, none⟩ = false := by
 refine ⟨?_, h.own.1.frozenAt _⟩
 have hl : i < (xs.set i { y.fs[i]! with la := some ⟨b2, 0, none⟩, lc := c2 }).length := by rw [List.length_set, h.xn]; exact hi
 rw [h.own.1.cellAt (i * 8 + q) (by omega), rowsV_at fmV_len _ i hl q hq, List.getElem_set_self]
theorem CpJ.lcell {b2 c2 k : Nat} {hs : List Hd} (h : CpJ N b cap y c i xs ts b2 c2 k hs W) (hk : k < (c.fl[i]!).legs.length) : W.cell? ⟨b2, k, none⟩ = some (.slice ((y.ts[i]!)[k]!).A ((y.ts[i]!)[k]!).n ((y.ts[i]!)[k]!).c) ∧ W.frozen? ⟨b2, k, none⟩ = false := by
 refine ⟨?_, h.leg.1.frozenAt _⟩
 rw [h.leg.1.cellAt k (by omega)]
 have := rowsV_at hdV_len hs k (by rw [h.hn]; exact hk) 0 (by omega)
 rw [Nat.mul_one, Nat.add_zero] at this
 rw [this, ← h.todo k (Nat.le_refl _) hk, getElem!_pos hs k (by rw [h.hn]; exact hk)]
 rfl
theorem CpI.legs {F : Nat → Prop} {g : Nat} {S : Su} {w w1 : World} {b2 c2 : Nat} (h : CpI N b cap y c i xs ts W) (hi : i < c.fl.length) (hM : CeM F g S c y w) (hN : N ≤ W.heap.size) (hb : Below W.heap.size W w1)
  (ho : w1.ownsRow W.heap.size 44 1 (.slice (some ⟨b2, 0, none⟩) (c.fl[i]!).legs.length c2) (c.fl[i]!).legs.length (rowsV hdV y.ts[i]!)) :
  CpJ N b cap y c i xs ts b2 c2 0 y.ts[i]! (w1.setCell ⟨b, i * 8 + 4, none⟩ (.slice (some ⟨b2, 0, none⟩) (c.fl[i]!).legs.length c2)) := by
 have h1 := h.below hb
 obtain ⟨cur, hc⟩ := h1.own.blk rfl
 have hl : OwnF (fun k => N ≤ k) w1 44 1 (.slice (some ⟨b2, 0, none⟩) (c.fl[i]!).legs.length c2) (c.fl[i]!).legs.length (rowsV hdV y.ts[i]!) := ⟨own_mono ho (Nat.zero_le _), fun k hk => Nat.le_trans hN (ho.lt k hk).1⟩
 have hF := hM.fl i hi
 have hst := (h1.own.1.stored (i * 8 + 4) (.slice (some ⟨b2, 0, none⟩) (c.fl[i]!).legs.length c2)).1
 rw [rowsV_cell fmV_len xs i (by rw [h.xn]; exact hi) 4 (by decide) _ { y.fs[i]! with la := some ⟨b2, 0, none⟩, lc := c2 } (by rw [h.todo i (Nat.le_refl _) hi, ← hF.ln]; rfl)] at hst
 have hb2 : W.heap.size ≤ b2 := (ho.lt b2 rfl).1
 refine ⟨h.xn, h.tn, hF.tl, ⟨hst, h1.own.2⟩, hl.set (p := ⟨b, i * 8 + 4, none⟩) hc (by decide) _, fun j hj => (h1.done j hj).set (p := ⟨b, i * 8 + 4, none⟩) hc (by decide) (fun e => ?_) _, fun j hj e => ?_, fun j hj => absurd hj (by omega), fun j _ _ => rfl, fun j h1 h2 => h.todo j (by omega) h2⟩
 ·exact (h1.done j hj).legs.other hc (by decide) e
 ·have := ((h.done j hj).legs.1.lt b2 e).2
  omega
theorem CpJ.step {w1 : World} {b2 c2 k : Nat} {hs : List Hd} {v : Hd} (h : CpJ N b cap y c i xs ts b2 c2 k hs W) (hk : k < (c.fl[i]!).legs.length) (hN : N ≤ W.heap.size) (hb : Below W.heap.size W w1)
  (ho : TuM (fun k => W.heap.size ≤ k) v (c.fl[i]!).legs[k]! w1) : CpJ N b cap y c i xs ts b2 c2 (k + 1) (hs.set k v) (w1.setCell ⟨b2, k, none⟩ (.slice v.A v.n v.c)) := by
 have h1 := h.below hb
 obtain ⟨cur, hc⟩ := h1.leg.blk rfl
 have hkl : k < hs.length := by rw [h.hn]; exact hk
 have hst := (h1.leg.1.stored k (.slice v.A v.n v.c)).1
 have hv : (rowsV hdV hs).set k (.slice v.A v.n v.c) = rowsV hdV (hs.set k v) := by
  have := rowsV_cell hdV_len hs k hkl 0 (by decide) (.slice v.A v.n v.c) v rfl
  rwa [Nat.mul_one, Nat.add_zero] at this
 rw [hv] at hst
 refine ⟨h.xn, h.tn, by rw [List.length_set]; exact h.hn, h1.own.set (p := ⟨b2, k, none⟩) hc (by decide) _, ⟨hst, h1.leg.2⟩, fun j hj => (h1.done j hj).set (p := ⟨b2, k, none⟩) hc (by decide) (h.ne j hj) _, h.ne, fun j hj => ?_, fun j h2 h3 => ?_, h.rest⟩
 ·rw [set_at hs k hkl v j (by rw [h.hn]; omega)]
  by_cases e : j = k
  ·rw [if_pos e, e]
   exact TuM.set (⟨ho.1, ho.2.mono fun _ h => Nat.le_trans hN h⟩ : TuM _ v _ w1) (p := ⟨b2, k, none⟩) hc (by decide) _
  ·rw [if_neg e]
   exact (h1.tu j (by omega)).set (p := ⟨b2, k, none⟩) hc (by decide) _
 ·rw [set_at hs k hkl v j (by rw [h.hn]; exact h3), if_neg (by omega)]
  exact h.todo j (by omega) h3
theorem CpJ.last {F : Nat → Prop} {g : Nat} {S : Su} {w w1 : World} {b2 c2 : Nat} {hs : List Hd} {v : Hd} (h : CpJ N b cap y c i xs ts b2 c2 (c.fl[i]!).legs.length hs W) (hi : i < c.fl.length) (hM : CeM F g S c y w) (hN : N ≤ W.heap.size) (hb : Below W.heap.size W w1)
  (ho : TuM (fun k => W.heap.size ≤ k) v (c.fl[i]!).next w1) : CpI N b cap y c (i + 1) (xs.set i { y.fs[i]! with la := some ⟨b2, 0, none⟩, lc := c2, na := v.A, nn := v.n, nc := v.c }) (ts.set i hs) (w1.setCell ⟨b, i * 8 + 5, none⟩ (.slice v.A v.n v.c)) := by
 have h1 := h.below hb
 obtain ⟨cur, hc⟩ := h1.own.blk rfl
 have hst := (h1.own.1.stored (i * 8 + 5) (.slice v.A v.n v.c)).1
 have hxl : i < xs.length := by rw [h.xn]; exact hi
 have hF := hM.fl i hi
 rw [rowsV_cell fmV_len _ i (by rw [List.length_set]; exact hxl) 5 (by decide) _ { y.fs[i]! with la := some ⟨b2, 0, none⟩, lc := c2, na := v.A, nn := v.n, nc := v.c } (by rw [set_at xs i hxl _ i hxl, if_pos rfl]; rfl), List.set_set] at hst
 refine ⟨by rw [List.length_set]; exact h.xn, by rw [List.length_set]; exact h.tn, ⟨hst, h1.own.2⟩, fun j hj => ?_, fun j h2 h3 => ?_⟩
 ·rw [set_at xs i hxl _ j (by omega), set_at ts i (by rw [h.tn]; exact hi) _ j (by rw [h.tn]; omega)]
  by_cases e : j = i
  ·rw [if_pos e, if_pos e, e]
   refine ⟨hF.call, hF.wake, hF.slot, hF.lands, hF.land, hF.nland, hF.ln, h.hn, ?_, fun q hq => (h1.tu q hq).set (p := ⟨b, i * 8 + 5, none⟩) hc (by decide) _, TuM.set (⟨ho.1, ho.2.mono fun _ h => Nat.le_trans hN h⟩ : TuM _ v _ w1) (p := ⟨b, i * 8 + 5, none⟩) hc (by decide) _⟩
   have := h1.leg.set (p := ⟨b, i * 8 + 5, none⟩) hc (by decide) (.slice v.A v.n v.c)
   rw [← hF.ln] at this ⊢
   exact this
  ·rw [if_neg e, if_neg e]
   exact (h1.done j (by omega)).set (p := ⟨b, i * 8 + 5, none⟩) hc (by decide) (fun e => (h1.done j (by omega)).legs.other hc (by decide) e) _
 ·rw [set_at xs i hxl _ j (by rw [h.xn]; exact h3), if_neg (by omega)]
  exact h.rest j (by omega) h3
end
end
section
open Go.RowKit
set_option maxRecDepth 100000 in
set_option maxHeartbeats 16000000 in
theorem Flights_any {F : Nat → Prop} {g : Nat} {S : Su} {c : Ce} {y : Lay} {w : World} (h : CeM F g S c y w) (hok : CeOk c) :
  Calls Tryz.prog 14 #[.pointer (some ⟨g, 0, none⟩)] w fun e w' => ∃ v : Hd, e = .returned (.slice v.A v.n v.c) ∧ CpM (fun k => w.heap.size ≤ k) v c.fl w' ∧ Below w.heap.size w w' := by
 have HF := Lib.hid (CloneFl_of h hok)
 have c19 : w.cell? ⟨g, 19, none⟩ = some (.slice y.fh.A y.fh.n y.fh.c) := h.cell 19
 have HM := Lib.hid h
 have HOk := Lib.hid hok
 obtain ⟨n, hn⟩ : ∃ n, c.fl.length = n := ⟨_, rfl⟩
 have HN := Lib.hid hn
 have h24 : n ≤ 24 := by have := hok.ow.n; have := hok.len; omega
 rw [hn] at HF
 have HFn : Hid (y.fs.length = n ∧ y.ts.length = n) := Lib.hid ⟨h.fn.trans hn, h.tn.trans hn⟩
 clear h hok hn
 by_cases h0 : n = 0
 ·subst h0
  go_enter Tryz.func14, Tryz.ntmps14
  go_wp2_with (go_at_call 44; go_loud (refine HF.out.mono ?_; rintro e w1 ⟨⟨vA, vn, vc⟩, rfl, hvn, ho, hb1⟩; dsimp only at hvn ho; subst hvn; have HO := Lib.hid ho; have HB1 := Lib.hid hb1; clear ho hb1))
  go_loopw [14] (fun s wr => s = .int .i64 0 ∧ wr = w1) (fun _ _ => 0)
  case atStart => exact ⟨rfl, rfl⟩
  case round =>
   obtain ⟨rfl, rfl⟩ := hrel
   go_wp2
   go_ret
   refine ⟨⟨vA, 0, vc⟩, rfl, ⟨y.fs, y.ts, ⟨HN.out.symm, HFn.out.1.trans HN.out.symm, ?_, fun i hi => absurd hi (by rw [HN.out]; omega)⟩⟩, HB1.out⟩
   rw [HN.out]
   exact ⟨own_mono HO.out (Nat.zero_le _), fun k hk => (HO.out.lt k hk).1⟩
 have hpos : 0 < n := by omega
 go_enter Tryz.func14, Tryz.ntmps14
 go_wp2_with (go_at_call 44; go_loud (refine HF.out.mono ?_; rintro e w1 ⟨⟨vA, vn, vc⟩, rfl, hvn, ho, hb1⟩; dsimp only at hvn ho; subst hvn; have HO := Lib.hid ho; have HB1 := Lib.hid hb1; clear ho hb1; obtain ⟨b, cap, hv, _, hbl⟩ := HO.out.form hpos; cases hv; clear hbl))
 have h0' : (0 : Int) ≤ (vn : Int) := by omega
 go_loopw [14] (fun s wr => ∃ (i : Nat) (xs : List Fm) (ts : List (List Hd)), i ≤ vn ∧ s = .int .i64 (i : Int) ∧ Hid (CpI w.heap.size b vc y c i xs ts wr) ∧ Hid (Below w.heap.size w wr)) (fun s _ => vn - (intOf s).toNat)
 case atStart =>
  refine ⟨0, y.fs, y.ts, by omega, rfl, Lib.hid ⟨HFn.out.1.trans HN.out.symm, HFn.out.2.trans HN.out.symm, ?_, fun j hj => absurd hj (by omega), fun j _ _ => rfl⟩, HB1⟩
  rw [HN.out]
  exact ⟨own_mono HO.out (Nat.zero_le _), fun k hk => (HO.out.lt k hk).1⟩
 case round =>
  obtain ⟨i, xs, ts, hi, rfl, HI, HB⟩ := hrel
  obtain ⟨wo, hwo⟩ : ∃ wo : World, wo = wr := ⟨_, rfl⟩
  subst hwo
  have hzr := HB.out.size
  by_cases hlt : i < vn
  ·have l0 : (0 : Int) ≤ (i : Int) := by omega
   have l1 : (i : Int) < (vn : Int) := by omega
   have hiw : IntKind.i64.wrap ((i : Int) + 1) = (i : Int) + 1 := IntWalk.i64_in _ (by omega)
   have hic : i < c.fl.length := by rw [HN.out]; exact hlt
   have HIc := Lib.hid hic
   have k4 := (HI.out.cell hic 4 (by decide)).1
   have z4 := (HI.out.cell hic 4 (by decide)).2
   simp only [fmV, List.getElem?_cons_succ, List.getElem?_cons_zero] at k4
   have HFl := Lib.hid (fun (W : World) (hb : Below w.heap.size w W) => (HM.out.below hb).fl i hic)
   have HFok : Hid (FlOk c.fl[i]!) := Lib.hid (HOk.out.fl _ (by rw [getElem!_pos c.fl i hic]; exact List.getElem_mem hic))
   obtain ⟨m, hm⟩ : ∃ m, (c.fl[i]!).legs.length = m := ⟨_, rfl⟩
   have HMm := Lib.hid hm
   have hm0 : 0 < m := by rw [← hm]; exact HFok.out.n0
   have hm6 : m ≤ 6 := by rw [← hm]; exact HFok.out.n1
   have HCl := Lib.hid (by
    have hf := HFl.out wo HB.out
    have := CloneLg_of hf.legs hf.ln hf.tl (by rw [hm]; exact hm0) (by rw [hm]; exact hm6)
    rw [hm] at this
    exact this)
   obtain ⟨xf, hxf⟩ : ∃ xf, y.fs[i]! = xf := ⟨_, rfl⟩
   rw [hxf] at k4 HCl
   have HXf := Lib.hid hxf
   obtain ⟨la, hla⟩ : ∃ a, xf.la = a := ⟨_, rfl⟩
   obtain ⟨ln, hln⟩ : ∃ a, xf.ln = a := ⟨_, rfl⟩
   obtain ⟨lc, hlc⟩ : ∃ a, xf.lc = a := ⟨_, rfl⟩
   rw [hla, hln, hlc] at k4 HCl
   have hlnm : ln = m := by rw [← hln, ← hxf, (HFl.out wo HB.out).ln, hm]
   subst hlnm
   clear hxf hla hln hlc hm hic
   have HJ0 := Lib.hid (fun (w1 : World) (b2 c2 : Nat) (hb : Below wo.heap.size wo w1) ho => HI.out.legs (w1 := w1) (b2 := b2) (c2 := c2) HIc.out HM.out hzr hb ho)
   rw [HMm.out] at HJ0
   go_wp2_with (go_at_call 45; go_loud (refine HCl.out.mono ?_; rintro e w2 ⟨b2, c2, rfl, ho2, hb2⟩; have q4 := (World.cell?_of_block (a := ⟨b, i * 8 + 4, none⟩) (hb2.block b (HI.out.own.1.lt b rfl).2)).trans k4; have p4 := (World.frozen?_of_block (a := ⟨b, i * 8 + 4, none⟩) (hb2.block b (HI.out.own.1.lt b rfl).2)).trans z4; have HO2 := Lib.hid ho2; have HB2 := Lib.hid hb2; clear ho2 hb2))
   have HJs := Lib.hid (HJ0.out w2 b2 c2 HB2.out HO2.out)
   have HBs := Lib.hid (show Below w.heap.size w (w2.setCell ⟨b, i * 8 + 4, none⟩ (.slice (some ⟨b2, 0, none⟩) ln c2)) from ((HB.out.trans (HB2.out.mono hzr)).setCell (HI.out.own.2 b rfl) _))
   have HNw := Lib.hid (show w.heap.size ≤ b2 from Nat.le_trans hzr (HO2.out.lt b2 rfl).1)
   have HNb := Lib.hid (show w.heap.size ≤ b from HI.out.own.2 b rfl)
   obtain ⟨w3, hw3⟩ : ∃ w3, w2.setCell ⟨b, i * 8 + 4, none⟩ (.slice (some ⟨b2, 0, none⟩) ln c2) = w3 := ⟨_, rfl⟩
   rw [hw3] at HJs HBs ⊢
   clear hw3 q4 p4 k4 z4 HO2 HB2 HJ0 HCl HI
   go_loopw [33] (fun s wr => ∃ (k : Nat) (hs : List Hd), k ≤ ln ∧ s = .int .i64 (k : Int) ∧ Hid (CpJ w.heap.size b vc y c i xs ts b2 c2 k hs wr) ∧ Hid (Below w.heap.size w wr)) (fun s _ => ln - (intOf s).toNat)
   case atStart => exact ⟨0, y.ts[i]!, by omega, rfl, HJs, HBs⟩
   case round =>
    obtain ⟨k, hs, hk, rfl, HJ, HBk⟩ := hrel
    have hzk := HBk.out.size
    obtain ⟨wk, hwk⟩ : ∃ wk : World, wk = wr := ⟨_, rfl⟩
    subst hwk
    have j4 := (HJ.out.cell HIc.out 4 (by decide)).1
    simp only [fmV, List.getElem?_cons_succ, List.getElem?_cons_zero] at j4
    rw [(HFl.out wk HBk.out).ln, HMm.out] at j4
    by_cases hlk : k < ln
    ·have m0 : (0 : Int) ≤ (k : Int) := by omega
     have m1 : (k : Int) < (ln : Int) := by omega
     have hkw : IntKind.i64.wrap ((k : Int) + 1) = (k : Int) + 1 := IntWalk.i64_in _ (by omega)
     have hkl : k < (c.fl[i]!).legs.length := by rw [HMm.out]; exact hlk
     have HKl := Lib.hid hkl
     have jc := (HJ.out.lcell hkl).1
     have jz := (HJ.out.lcell hkl).2
     have j64 : ((c.fl[i]!).legs[k]!).length ≤ 64 := (HFok.out.legs k hkl).n1
     have HCt := Lib.hid (fun (W : World) (hb : Below wk.heap.size wk W) => (CloneTu_of (((HFl.out wk HBk.out).leg k hkl).kept (.of_below (by exact hb))) j64).mono fun e w' hh => (show ∃ v : Hd, e = .returned (.slice v.A v.n v.c) ∧ TuM (fun q => wk.heap.size ≤ q) v (c.fl[i]!).legs[k]! w' ∧ Below wk.heap.size wk w' from by
      obtain ⟨v, h1, h2, h3⟩ := hh
      exact ⟨v, h1, ⟨h2.1, h2.2.mono fun _ h => Nat.le_trans hb.size h⟩, hb.trans (h3.mono hb.size)⟩))
     have HSt := Lib.hid (fun (w1 : World) (v : Hd) (hb : Below wk.heap.size wk w1) ho => HJ.out.step (v := v) HKl.out hzk hb ho)
     have hlb : b < wk.heap.size := (HJ.out.own.1.lt b rfl).2
     have hlb2 : b2 < wk.heap.size := (HJ.out.leg.1.lt b2 rfl).2
     have hbne : b ≠ b2 := fun e => by
      obtain ⟨cur, hc⟩ := HJ.out.leg.blk rfl
      exact HJ.out.own.other hc (by decide) (by rw [e]; rfl)
     have HK4 := Lib.hid (fun (W : World) (u : Value) (hW : W.cell? ⟨b, i * 8 + 4, none⟩ = some (.slice (some ⟨b2, 0, none⟩) ln c2)) => (show (W.setCell ⟨b2, k, none⟩ u).cell? ⟨b, i * 8 + 4, none⟩ = some (.slice (some ⟨b2, 0, none⟩) ln c2) from (World.cell?_of_block (a := ⟨b, i * 8 + 4, none⟩) (Below.heap_setCell _ _ _ _ hbne)).trans hW))
     obtain ⟨⟨tA, tn, tc⟩, ht⟩ : ∃ t, (y.ts[i]!)[k]! = t := ⟨_, rfl⟩
     rw [ht] at jc HCt
     dsimp only at jc HCt
     clear ht hkl j64
     go_upto_region 10 with (fail)
     refine wp_region_held_drew (S := (fun W => W.cell? ⟨b, i * 8 + 4, none⟩ = some (.slice (some ⟨b2, 0, none⟩) ln c2))) (by kernel_rfl) j4 (fun hHeld => ?_)
     refine wpAnyH_take (i := 0) (oi := ⟨some 36, _, _, _, _, _⟩) (v := ?hu0) rfl (by kernel_rfl) (by kernel_rfl) (by kernel_rfl) (fun _ _ _ h => h) (Or.inl ⟨by rfl, ?hp0⟩) hHeld ?hq0
     case hp0 => (intro W hSw; (try dsimp only at hSw); (try obtain s1 := hSw); go_simp; try with_reducible rfl)
     try simp only [Act.put, zI, zO, zS]
     refine wpAnyH_take (i := 1) (oi := ⟨some 37, _, _, _, _, _⟩) (v := ?hu1) rfl (by kernel_rfl) (by kernel_rfl) (by kernel_rfl) (fun _ _ _ h => h) (Or.inl ⟨by rfl, ?hp1⟩) hHeld ?hq1
     case hp1 => (intro W hSw; (try dsimp only at hSw); (try obtain s1 := hSw); go_simp; try with_reducible rfl)
     try simp only [Act.put, zI, zO, zS]
     refine wpAnyH_take (i := 2) (oi := ⟨some 38, _, _, _, _, _⟩) (v := ?hu2) rfl (by kernel_rfl) (by kernel_rfl) (by kernel_rfl) (fun _ _ _ h => h) (Or.inl ⟨by rfl, ?hp2⟩) hHeld ?hq2
     case hp2 => (intro W hSw; (try dsimp only at hSw); (try obtain s1 := hSw); go_simp; try with_reducible rfl)
     try simp only [Act.put, zI, zO, zS]
     refine wpAnyH_take (i := 3) (oi := ⟨some 39, _, _, _, _, _⟩) (v := ?hu3) rfl (by kernel_rfl) (by kernel_rfl) (by kernel_rfl) (fun _ _ _ h => h) (Or.inl ⟨by rfl, ?hp3⟩) hHeld ?hq3
     case hp3 => (intro W hSw; (try dsimp only at hSw); (try obtain s1 := hSw); go_simp; try with_reducible rfl)
     try simp only [Act.put, zI, zO, zS]
     refine wpAnyH_take (i := 4) (oi := ⟨some 40, _, _, _, _, _⟩) (v := ?hu4) rfl (by kernel_rfl) (by kernel_rfl) (by kernel_rfl) (fun _ _ _ h => h) (Or.inl ⟨by rfl, ?hp4⟩) hHeld ?hq4
     case hp4 => (intro W hSw; (try dsimp only at hSw); (try obtain s1 := hSw); go_simp; try with_reducible rfl)
     try simp only [Act.put, zI, zO, zS]
     refine wpAnyH_take (i := 5) (oi := ⟨some 41, _, _, _, _, _⟩) (v := ?hu5) rfl (by kernel_rfl) (by kernel_rfl) (by kernel_rfl) (fun _ _ _ h => h) (Or.inl ⟨by rfl, ?hp5⟩) hHeld ?hq5
     case hp5 => (intro W hSw; (try dsimp only at hSw); (try obtain s1 := hSw); go_simp; try with_reducible rfl)
     try simp only [Act.put, zI, zO, zS]
     refine wpAnyH_take (i := 6) (oi := ⟨some 42, _, _, _, _, _⟩) (v := ?hu6) rfl (by kernel_rfl) (by kernel_rfl) (by kernel_rfl) (fun _ _ _ h => h) (Or.inl ⟨by rfl, ?hp6⟩) hHeld ?hq6
     case hp6 => (intro W hSw; (try dsimp only at hSw); (try obtain s1 := hSw); go_simp; try with_reducible rfl)
     try simp only [Act.put, zI, zO, zS]
     refine wpAnyH_take (i := 7) (oi := ⟨some 43, _, _, _, _, _⟩) (v := ?hu7) rfl (by kernel_rfl) (by kernel_rfl) (by kernel_rfl) (fun _ _ _ h => h) (Or.inl ⟨by rfl, ?hp7⟩) hHeld ?hq7
     case hp7 => (intro W hSw; (try dsimp only at hSw); (try obtain s1 := hSw); go_simp; try with_reducible rfl)
     try simp only [Act.put, zI, zO, zS]
     refine wpAnyH_take (i := 8) (oi := ⟨some 44, _, _, _, _, _⟩) (v := ?hu8) rfl (by kernel_rfl) (by kernel_rfl) (by kernel_rfl) (fun _ _ _ h => h) (Or.inl ⟨by rfl, ?hp8⟩) hHeld ?hq8
     case hp8 => (intro W hSw; (try dsimp only at hSw); (try obtain s1 := hSw); go_simp; try with_reducible rfl)
     try simp only [Act.put, zI, zO, zS]
     refine wpAnyH_take (i := 9) (oi := ⟨some 45, _, _, _, _, _⟩) (v := ?hu9) rfl (by kernel_rfl) (by kernel_rfl) (by kernel_rfl) (fun _ _ _ h => h) (Or.inl ⟨by rfl, ?hp9⟩) hHeld ?hq9
     case hp9 => (intro W hSw; (try dsimp only at hSw); (try obtain s1 := hSw); go_simp; try with_reducible rfl)
     try simp only [Act.put, zI, zO, zS]
     refine wpAnyH_take (i := 10) (oi := ⟨some 46, _, _, _, _, _⟩) (v := ?hu10) rfl (by kernel_rfl) (by kernel_rfl) (by kernel_rfl) (fun _ _ _ h => h) (Or.inl ⟨by rfl, ?hp10⟩) hHeld ?hq10
     case hp10 => (intro W hSw; (try dsimp only at hSw); (try obtain s1 := hSw); go_simp; try with_reducible rfl)
     try simp only [Act.put, zI, zO, zS]
     refine wpAnyH_ready (rs := [11]) (by kernel_rfl) (by simp) ?_
     refine (AllReadyH.cons (o := ⟨some 47, _, _, _, _, _⟩) rfl (fun K hK => ?_) AllReadyH.nil)
     go_simp
     refine hK.out _ _ hHeld (fun hHeld => ?_)
     clear hK K
     try simp only [Act.put, zI, zO, zS]
     refine wpAnyH_ready (rs := [12]) (by kernel_rfl) (by simp) ?_
     refine (AllReadyH.cons (o := ⟨some 48, _, _, _, _, _⟩) rfl (fun K hK => ?_) AllReadyH.nil)
     go_simp
     go_at_call 46
     (with_reducible refine (HCt.out _ (Below.refl _ _).drew).mono ?_)
     rintro e w5 ⟨⟨nA, nn, nc⟩, rfl, ho5, hb5⟩
     have d4 := (World.cell?_of_block (a := ⟨b, i * 8 + 4, none⟩) (hb5.block b hlb)).trans j4
     have d5 := (World.cell?_of_block (a := ⟨b2, k, none⟩) (hb5.block b2 hlb2)).trans jc
     have d6 := (World.frozen?_of_block (a := ⟨b2, k, none⟩) (hb5.block b2 hlb2)).trans jz
     have HO5 := Lib.hid ho5
     have HB5 := Lib.hid hb5
     clear ho5 hb5
     refine hK.out _ _ d4 (fun hHeld => ?_)
     clear hK K
     refine wpAnyH_take (i := 13) (oi := ⟨some 49, _, _, _, _, _⟩) (v := ?hu13) rfl (by kernel_rfl) (by kernel_rfl) (by kernel_rfl) (fun _ _ _ h => h) (Or.inl ⟨by rfl, ?hp13⟩) hHeld ?hq13
     case hp13 => (intro W hSw; (try dsimp only at hSw); (try obtain s1 := hSw); go_simp; try with_reducible rfl)
     try simp only [Act.put, zI, zO, zS]
     refine wpAnyH_ready (rs := [14]) (by kernel_rfl) (by simp) ?_
     refine (AllReadyH.cons (o := ⟨none, _, _, _, _, _⟩) rfl (fun K hK => ?_) AllReadyH.nil)
     go_simp
     refine hK.out _ _ (HK4.out _ _ d4) (fun hHeld => ?_)
     clear hK K
     try simp only [Act.put, zI, zO, zS]
     refine wpAnyH_done (by kernel_rfl) ?_ _
     go_wp2
     go_roundw
     case rel => exact ⟨k + 1, hs.set k ⟨nA, nn, nc⟩, by omega, by go_num, Lib.hid (HSt.out w5 ⟨nA, nn, nc⟩ HB5.out HO5.out), Lib.hid ((HBk.out.trans (HB5.out.mono hzk)).setCell HNw.out _)⟩
     case measure => simp [intOf]; omega
    ·obtain rfl : ln = k := by omega
     have j5 := (HJ.out.cell HIc.out 5 (by decide)).1
     have z5 := (HJ.out.cell HIc.out 5 (by decide)).2
     simp only [fmV, List.getElem?_cons_succ, List.getElem?_cons_zero] at j5
     have hxn := (HFl.out wk HBk.out).next
     have j64 : (c.fl[i]!).next.length ≤ 64 := by
      rcases HFok.out.next with e | e
      ·rw [e]; exact Nat.zero_le _
      ·exact e.n1
     have HCt := Lib.hid (CloneTu_of hxn j64)
     have HLa := Lib.hid (fun (w1 : World) (v : Hd) (hb : Below wk.heap.size wk w1) ho => CpJ.last (v := v) (w1 := w1) (by rw [HMm.out]; exact HJ.out) HIc.out HM.out hzk hb ho)
     have hlb : b < wk.heap.size := (HJ.out.own.1.lt b rfl).2
     obtain ⟨na, hna⟩ : ∃ a, (y.fs[i]!).na = a := ⟨_, rfl⟩
     obtain ⟨nn, hnn⟩ : ∃ a, (y.fs[i]!).nn = a := ⟨_, rfl⟩
     obtain ⟨nc, hnc⟩ : ∃ a, (y.fs[i]!).nc = a := ⟨_, rfl⟩
     rw [hna, hnn, hnc] at j5 HCt
     dsimp only at HCt
     clear hna hnn hnc hxn j64
     go_wp2_with (go_at_call 46; go_loud (refine HCt.out.mono ?_; rintro e w5 ⟨⟨pA, pn, pc⟩, rfl, ho5, hb5⟩; have d5 := (World.cell?_of_block (a := ⟨b, i * 8 + 5, none⟩) (hb5.block b hlb)).trans j5; have d6 := (World.frozen?_of_block (a := ⟨b, i * 8 + 5, none⟩) (hb5.block b hlb)).trans z5; have HO5 := Lib.hid ho5; have HB5 := Lib.hid hb5; clear ho5 hb5))
     go_roundw
     case rel => exact ⟨i + 1, _, _, by omega, by go_num, Lib.hid (HLa.out w5 ⟨pA, pn, pc⟩ HB5.out HO5.out), Lib.hid ((HBk.out.trans (HB5.out.mono hzk)).setCell HNb.out _)⟩
     case measure => simp [intOf]; omega
  ·obtain rfl : vn = i := by omega
   go_wp2
   go_ret
   refine ⟨⟨some ⟨b, 0, none⟩, vn, vc⟩, rfl, ⟨xs, ts, ⟨HN.out.symm, HI.out.xn, ?_, fun j hj => HI.out.done j (by rw [HN.out] at hj; exact hj)⟩⟩, HB.out⟩
   have := HI.out.own
   rw [HN.out] at this ⊢
   exact this
end
section
open Go.RowKit
theorem CloneEnt_info : (Tryz.prog.info? 78).map (fun i => (i.zero, i.size, i.bytes)) = some (some (.agg #[.int .i64 0, .int .i64 0, .string ByteArray.empty, .string ByteArray.empty]), 4, 48) := by kernel_rfl
set_option maxHeartbeats 1000000 in
theorem CloneEnt_any (A : Option Addr) (n c : Nat) (row : Nat → List Value) (w : World) (hA : Sl w w.heap.size 4 A n row) (hl : ∀ i, i < n → (row i).length = 4) (h1 : ∀ i, i < n → ∀ u ∈ row i, u.oneCell' = true)
  (hnil : A = none → n = 0) (hn : n ≤ maxLen) (hby : n * 48 ≤ 140737488355328) :
  Calls Tryz.prog 60 #[.slice A n c] w fun e w' => ∃ v, e = .returned v ∧ w'.ownsRow w.heap.size 78 4 v n (flatR row n) ∧ Below w.heap.size w w' := by
 cases A with
 | none =>
  obtain rfl := hnil rfl
  have hk := fun (W : World) => Lib.run_eql_slice_nil (P := Tryz.prog) W 75 78 none 0 c 0 0 Tryz.underlying75
  go_enter Tryz.func60, Tryz.ntmps60
  go_wp2
  go_ret
  exact ⟨_, rfl, World.ownsRow_nil _ _ _ _, Below.refl _ _⟩
 | some ad =>
  have hk := fun (W : World) => Lib.run_eql_slice_nil (P := Tryz.prog) W 75 78 (some ad) n c 0 0 Tryz.underlying75
  obtain ⟨i0, J0, J1, J2, J3⟩ := info_parts CloneEnt_info
  have hbn : Below w.heap.size w (w.alloc (.cells #[] 78)) := (Below.refl _ _).alloc (Nat.le_refl _) _
  have hnews := Sl_news (by decide) (hA.below hbn) rfl hl
  have hlen := flatR_len n hl
  have hone : ∀ u ∈ flatR row n, u.oneCell' = true := fun u hu => by
   obtain ⟨i, hi, hu⟩ := flatR_mem hu
   exact h1 i hi u hu
  have HN := Lib.hid hnews
  have HL := Lib.hid hlen
  have HO := Lib.hid hone
  clear hnews hlen hone h1 hl
  go_enter Tryz.func60, Tryz.ntmps60
  go_wp2_with (at_builtin; refine wpList_append_own _ rfl (.tmp 5) (.tmp 6) 75 rfl w.heap.size 78 i0 _ 4 48 Tryz.underlying75 J0 J1 J2 J3 rfl (by decide) (.slice (some ⟨w.heap.size, 0, none⟩) 0 0) 0 [] rfl (World.ownsRow_made w #[] 0 (Nat.le_refl _) (by decide) rfl) ad n c (flatR row n) rfl HL.out HN.out HO.out (by omega) (by omega) (by simp) ?_; intro v' w' hown hg hni)
  go_ret
  refine ⟨_, rfl, ?_, hbn.grown hg hbn.size (fun k hk => by simp [Value.ownBlock] at hk; omega)⟩
  rw [Nat.zero_add, List.nil_append] at hown
  exact hown
end
end Go.Proofs.YtaebebpldkciiaaGreatDoor
