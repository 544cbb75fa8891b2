/- Contracts and plain words, part 15: texts U5, U6, U13. -/
import Derived.Test.YtaebebpldkciiaaGreatDoorQG09
import Derived.Test.YtaebebpldkciiaaGreatDoorQG04
import Derived.Test.YtaebebpldkciiaaGreatDoorQG14
namespace Go.Proofs.YtaebebpldkciiaaGreatDoor
section
open Go.RowKit
theorem gap_cell (S : Su) (c : Ce) (y : Lay) (a b : Nat) (ha : a < 4) (hb : b < 4) : (ceV S c y)[2 + a * 4 + b]? = some (.int .i64 (S.g (4 * a + b))) := by
 have h1 : a = 0 ∨ a = 1 ∨ a = 2 ∨ a = 3 := by omega
 have h2 : b = 0 ∨ b = 1 ∨ b = 2 ∨ b = 3 := by omega
 rcases h1 with rfl | rfl | rfl | rfl <;> rcases h2 with rfl | rfl | rfl | rfl <;> rfl
theorem int_info : (Tryz.prog.info? 3).map (fun i => (i.zero, i.size, i.bytes)) = some (some (.int .i64 0), 1, 8) := by kernel_rfl
theorem own_lit1 (W : World) (base N : Nat) (hb : base ≤ W.heap.size) (hN : N = W.heap.size) (x : Int) : (W.alloc (.cells #[.int .i64 x] 3)).ownsRow base 3 1 (.slice (some ⟨N, 0, none⟩) 1 1) 1 (intsV [x]) := by
 subst hN
 exact World.ownsRow_lit W #[.int .i64 x] 1 hb (by decide) rfl
theorem FlOk.nextLen {f : Fl} (h : FlOk f) : f.next.length ≤ 64 := by
 rcases h.next with h1 | h1
 ·rw [h1]; decide
 ·exact h1.n1
def FreeP (r : Bool) (w : World) (e : Ending) (w' : World) : Prop := e = .returned (.bool r) ∧ Below w.heap.size w w'
set_option maxRecDepth 100000 in
set_option maxHeartbeats 16000000 in
theorem free_any {F : Nat → Prop} {g : Nat} {S : Su} {c : Ce} {y : Lay} {w : World} (h : CeM F g S c y w) (hok : CeOk c) (call : ByteArray) (cl : Nat) (hcl : cl < 4) (t : Int) (ht : 0 ≤ t ∧ t ≤ 600000) (b1 b2 b3 : Nat)
  (l1 : b1 < w.heap.size) (l2 : b2 < w.heap.size) (l3 : b3 < w.heap.size) (h1 : w.cell? ⟨b1, 0, none⟩ = some (.pointer (some ⟨g, 0, none⟩))) (h2 : w.cell? ⟨b2, 0, none⟩ = some (.string call)) (h3 : w.cell? ⟨b3, 0, none⟩ = some (.int .i64 (cl : Int))) :
  Calls Tryz.prog 155 #[.int .i64 t, .pointer (some ⟨b1, 0, none⟩), .pointer (some ⟨b2, 0, none⟩), .pointer (some ⟨b3, 0, none⟩)] w (FreeP (freeP S c.fl call cl t) w) := by
 obtain ⟨i3, J0, J1, J2, J3⟩ := info_parts int_info
 obtain ⟨t0, t9⟩ := ht
 have Lg := Lib.hid (h.bd g h.fg)
 have HM := Lib.hid (fun (W : World) (hb : Below w.heap.size w W) => h.below hb)
 have L1 := Lib.hid l1
 have L2 := Lib.hid l2
 have L3 := Lib.hid l3
 have C1 := Lib.hid h1
 have C2 := Lib.hid h2
 have C3 := Lib.hid h3
 have HFn := Lib.hid h.fh
 have HFc := Lib.hid hok.len
 have HF24 := Lib.hid hok.ow.n
 obtain ⟨fA, hfA⟩ : ∃ fA, y.fh.A = fA := ⟨_, rfl⟩
 obtain ⟨fC, hfC⟩ : ∃ fC, y.fh.c = fC := ⟨_, rfl⟩
 obtain ⟨nf, hnf⟩ : ∃ nf, y.fh.n = nf := ⟨_, rfl⟩
 have HFS : Hid (nf = c.fl.length ∧ nf ≤ 24) := Lib.hid (by have := HFn.out; have := HFc.out; have := HF24.out; omega)
 have HSl := Lib.hid (fun (W' : World) (hb : Below w.heap.size w W') => (show Sl W' W'.heap.size 8 fA nf (fun i => fmV y.fs[i]!) from by rw [← hfA, ← hnf]; exact (h.below hb).sl))
 have e19 : w.cell? ⟨g, 19, none⟩ = some (.slice fA nf fC) := by rw [← hfA, ← hnf, ← hfC]; exact h.cell 19
 have hnf0 : (0 : Int) ≤ (nf : Int) := by omega
 unfold FreeP
 clear h h2 h3 l1 l2 l3 hfA hfC hnf
 go_enter Tryz.func155, Tryz.ntmps155
 go_wp2_with fail
 clear e19 h1
 go_loopw [16] (fun i wr => ∃ j : Nat, j ≤ nf ∧ i = .int .i64 (j : Int) ∧ Hid (∀ k, k < j → nearF S call cl t c.fl[k]! = false) ∧ Hid (Below w.heap.size w wr)) (fun i _ => nf - (intOf i).toNat)
 case atStart => exact ⟨0, by omega, rfl, Lib.hid (fun k hk => absurd hk (by omega)), Lib.hid (Below.refl _ _)⟩
 case round =>
  obtain ⟨j, hj, rfl, HG, HB⟩ := hrel
  obtain ⟨wo, hwo⟩ : ∃ wo : World, wo = wr := ⟨_, rfl⟩
  subst hwo
  have hzr := HB.out.size
  by_cases hlt' : j < nf
  ·have h24 := HFS.out
   have l0 : (0 : Int) ≤ (j : Int) := by omega
   have l1 : (j : Int) < (nf : Int) := by omega
   have hjw : IntKind.i64.wrap ((j : Int) + 1) = (j : Int) + 1 := IntWalk.i64_in _ (by omega)
   have hMr := HM.out wo HB.out
   obtain ⟨b, off, rfl, hbb, hrow⟩ := HSl.out wo HB.out (by omega)
   have hcs : ∀ k v, (fmV y.fs[j]!)[k]? = some v → wo.cell? ⟨b, off + j * 8 + k, none⟩ = some v := fun k v hv => hrow j hlt' k v hv
   have hFl := (hMr.fl j (by omega)).fla
   have hFok := hok.fl c.fl[j]! (by rw [getElem!_pos c.fl j (by omega)]; exact List.getElem_mem _)
   obtain ⟨xf, hxf⟩ : ∃ xf, y.fs[j]! = xf := ⟨_, rfl⟩
   obtain ⟨f, hf⟩ : ∃ f, c.fl[j]! = f := ⟨_, rfl⟩
   rw [hxf] at hcs hFl
   rw [hf] at hFl hFok
   obtain ⟨fcall, fwake, fslot, flands, fla, fln, flc, fna, fnn, fnc, fland, fnland⟩ := xf
   obtain ⟨wk, hwk⟩ : ∃ wk : Nat, fwake = (wk : Int) := ⟨fwake.toNat, by have e : fwake = f.wake := hFl.wake; have := hFok.wk; omega⟩
   subst hwk
   have hwk4 : wk < 4 := by have e : (wk : Int) = f.wake := hFl.wake; have := hFok.wk; omega
   have hwke : f.wake.toNat = wk := by have e : (wk : Int) = f.wake := hFl.wake; omega
   have hlan : fland = f.land := hFl.land
   have hnla : fnland = f.nland := hFl.nland
   have hfnn : fnn = f.next.length := hFl.next.1.symm
   have hlds : flands = f.lands := hFl.lands
   have d0 : wo.cell? ⟨b, off + j * 8, none⟩ = some (.string fcall) := hcs 0 _ rfl
   have d1 : wo.cell? ⟨b, off + j * 8 + 1, none⟩ = some (.int .i64 (wk : Int)) := hcs 1 _ rfl
   have d2 : wo.cell? ⟨b, off + j * 8 + 2, none⟩ = some (.int .i64 fslot) := hcs 2 _ rfl
   have d3 : wo.cell? ⟨b, off + j * 8 + 3, none⟩ = some (.bool flands) := hcs 3 _ rfl
   have d4 : wo.cell? ⟨b, off + j * 8 + 4, none⟩ = some (.slice fla fln flc) := hcs 4 _ rfl
   have d5 : wo.cell? ⟨b, off + j * 8 + 5, none⟩ = some (.slice fna fnn fnc) := hcs 5 _ rfl
   have d6 : wo.cell? ⟨b, off + j * 8 + 6, none⟩ = some (.int .i64 fland) := hcs 6 _ rfl
   have d7 : wo.cell? ⟨b, off + j * 8 + 7, none⟩ = some (.int .i64 fnland) := hcs 7 _ rfl
   have e4 : wo.cell? ⟨b2, 0, none⟩ = some (.string call) := (HB.out.cell (p := ⟨b2, 0, none⟩) L2.out).trans C2.out
   have hl4 : b2 < wo.heap.size := by have := L2.out; omega
   have hcall : fcall = f.call := hFl.call
   have NF : Hid (nearF S call cl t f = (!decide (fcall = call) && flands && (nearU S wk cl t fland || (decide (0 < fnn) && nearU S wk cl t fnland)))) := Lib.hid (by unfold nearF; rw [hwke, hcall, hlds, hlan, hnla, hfnn])
   have HFok := Lib.hid hFok
   have HF := Lib.hid hf
   have HLT := Lib.hid hlt'
   have bl := hFok.land
   have bn := hFok.nland
   rw [← hlan] at bl
   rw [← hnla] at bn
   have HMr := Lib.hid hMr
   have HZr := Lib.hid hzr
   have hf64 : fnn ≤ 64 := by rw [hfnn]; exact HFok.out.nextLen
   clear h24 hcs hrow hFl hFok hf hxf hMr hcall hlt' hwke hlan hnla hfnn hlds
   by_cases hsame : fcall = call
   ·have eb : (fcall.toList == call.toList) = true := by rw [ba_beq]; exact decide_eq_true hsame
    rw [decide_eq_true hsame] at NF
    have HG2 : Hid (∀ k, k < j + 1 → nearF S call cl t c.fl[k]! = false) := hid_step HG (by rw [HF.out]; exact NF.out)
    have HB2 : Hid (Below w.heap.size w (wo.alloc (.cells #[.string fcall, .int .i64 (wk : Int), .int .i64 fslot, .bool flands, .slice fla fln flc, .slice fna fnn fnc, .int .i64 fland, .int .i64 fnland] 46))) := Lib.hid (HB.out.alloc hzr _)
    clear hsame
    go_wp2_with fail
    go_roundw
    case rel => exact ⟨j + 1, by have := HLT.out; omega, by go_num, HG2, HB2⟩
    case measure => have := HLT.out; simp [intOf]; omega
   ·have eb : (fcall.toList == call.toList) = false := by rw [ba_beq]; exact decide_eq_false hsame
    rw [decide_eq_false hsame] at NF
    clear hsame
    cases flands with
    | false =>
     have HG2 : Hid (∀ k, k < j + 1 → nearF S call cl t c.fl[k]! = false) := hid_step HG (by rw [HF.out]; exact NF.out)
     have HB2 : Hid (Below w.heap.size w (wo.alloc (.cells #[.string fcall, .int .i64 (wk : Int), .int .i64 fslot, .bool false, .slice fla fln flc, .slice fna fnn fnc, .int .i64 fland, .int .i64 fnland] 46))) := Lib.hid (HB.out.alloc hzr _)
     go_wp2_with fail
     go_roundw
     case rel => exact ⟨j + 1, by have := HLT.out; omega, by go_num, HG2, HB2⟩
     case measure => have := HLT.out; simp [intOf]; omega
    | true =>
     obtain ⟨gA, hgA⟩ : ∃ gA, S.g (4 * wk + cl) = gA := ⟨_, rfl⟩
     obtain ⟨gB, hgB⟩ : ∃ gB, S.g (4 * cl + wk) = gB := ⟨_, rfl⟩
     have HgA := Lib.hid hgA
     have HgB := Lib.hid hgB
     have HBa : Hid (Below w.heap.size w (wo.alloc (.cells #[.string fcall, .int .i64 (wk : Int), .int .i64 fslot, .bool true, .slice fla fln flc, .slice fna fnn fnc, .int .i64 fland, .int .i64 fnland] 46))) := Lib.hid (HB.out.alloc hzr _)
     clear hgA hgB
     by_cases hnx : 0 < fnn
     ·rw [decide_eq_true hnx] at NF
      have NFT : Hid (∀ v, v ∈ [fland, fnland] → nearU S wk cl t v = true → nearF S call cl t f = true) := Lib.hid (fun v hv hn => by
       rw [NF.out]
       simp only [List.mem_cons, List.not_mem_nil, or_false] at hv
       rcases hv with rfl | rfl <;> simp [hn])
      have NFF : Hid ((∀ v, v ∈ [fland, fnland] → nearU S wk cl t v = false) → nearF S call cl t f = false) := Lib.hid (fun hv => by
       rw [NF.out, hv fland (by simp), hv fnland (by simp)]; rfl)
      have hnx' : (0 : Int) < (fnn : Int) := by omega
      go_wp2_with (at_builtin; go_loud (refine wpList_append_intN _ (wo.heap.size + 1 + 1) (by rw [size_al, size_al]) fnland rfl (.tmp 36) (.tmp 39) 29 rfl w.heap.size 3 i3 Tryz.underlying29 J0 J1 J2 J3 _ 1 [fland] rfl (own_lit1 _ w.heap.size _ (by rw [size_al]; omega) (by rw [size_al]) fland) rfl (by omega) (by rw [size_al, size_al]; omega) ?_; intro bU capU w5 hv5 hg5 hat5 hlt5))
      have HB5 : Hid (Below w.heap.size w w5) := Lib.hid (below_app (HBa.out.alloc HBa.out.size _) (by rw [size_al, size_al]; omega) (own_lit1 _ w.heap.size _ (by rw [size_al]; omega) (by rw [size_al]) fland) (Nat.le_refl _) hg5)
      have hne5 : some wo.heap.size ≠ (Value.slice (some ⟨wo.heap.size + 1, 0, none⟩) 1 1).ownBlock := by simp [Value.ownBlock]
      have kW : w5.heap[wo.heap.size]? = some (.cells #[.string fcall, .int .i64 (wk : Int), .int .i64 fslot, .bool true, .slice fla fln flc, .slice fna fnn fnc, .int .i64 fland, .int .i64 fnland] 46 (0, 0)) := (hg5.block _ (by rw [size_al, size_al, size_al]; omega) hne5).trans ((al_old2 _ _ (by rw [size_al, size_al]; omega)).trans ((al_old2 _ _ (by rw [size_al]; omega)).trans (heap_alloc_new _ _)))
      have zW : wo.heap.size < w5.heap.size := (Array.getElem?_eq_some_iff.1 kW).1
      have HbU : Hid (bU < w5.heap.size) := Lib.hid hlt5
      have HU : Hid (∀ q, q < 2 → w5.cell? ⟨bU, q, none⟩ = some (.int .i64 ([fland, fnland][q]!))) := Lib.hid (fun q hq => by have e := hv5.cellAt q (by omega); rw [e]; rcases (by omega : q = 0 ∨ q = 1) with rfl | rfl <;> rfl)
      clear hv5 hg5 hat5 hlt5 hne5 d0 d1 d2 d3 d4 d5 d6 d7 e4
      have HzW : Hid (wo.heap.size < w5.heap.size) := Lib.hid zW
      have HcW : Hid (w5.cell? ⟨wo.heap.size, 1, none⟩ = some (.int .i64 (wk : Int))) := Lib.hid (cell_of_row _ _ 1 _ _ _ kW)
      have HUm : Hid (∀ q, q < 2 → [fland, fnland][q]! ∈ [fland, fnland]) := Lib.hid (fun q hq => by rw [getElem!_pos _ q (by simpa using hq)]; exact List.getElem_mem _)
      have HUall : Hid (∀ v, v ∈ [fland, fnland] → ∃ q, q < 2 ∧ [fland, fnland][q]! = v) := Lib.hid (fun v hv => by obtain ⟨q, hq, e⟩ := List.getElem_of_mem hv; exact ⟨q, by simpa using hq, by rw [getElem!_pos _ q hq]; exact e⟩)
      have HUb : Hid (∀ q : Nat, q < 2 → 0 ≤ [fland, fnland][q]! ∧ [fland, fnland][q]! ≤ 200000) := Lib.hid (fun q hq => by
       rcases (by omega : q = 0 ∨ q = 1) with rfl | rfl
       ·exact bl
       ·exact bn)
      obtain ⟨us, hus⟩ : ∃ us : List Int, [fland, fnland] = us := ⟨_, rfl⟩
      rw [hus] at HUm HUall HUb HU NFT NFF
      clear hus zW kW
      have hM5 := HM.out w5 HB5.out
      have h5g := hM5.cell (2 + wk * 4 + cl)
      have h5h := hM5.cell (2 + cl * 4 + wk)
      have hgA : w5.cell? ⟨g, 2 + wk * 4 + cl, none⟩ = some (.int .i64 gA) := by rw [h5g, gap_cell S c y wk cl (by omega) hcl, HgA.out]
      have hgB : w5.cell? ⟨g, 2 + cl * 4 + wk, none⟩ = some (.int .i64 gB) := by rw [h5h, gap_cell S c y cl wk hcl (by omega), HgB.out]
      have HA5 := Lib.hid hgA
      have HB5g := Lib.hid hgB
      have p1 := (HB5.out.cell (p := ⟨b1, 0, none⟩) L1.out).trans C1.out
      have p3 := (HB5.out.cell (p := ⟨b3, 0, none⟩) L3.out).trans C3.out
      have HP1 := Lib.hid p1
      have HP3 := Lib.hid p3
      have zBo := HB5.out.size
      clear hM5 h5g h5h hgA hgB p1 p3
      go_loopw [43] (fun i wr => ∃ k : Nat, k ≤ 2 ∧ i = .int .i64 (k : Int) ∧ Hid (∀ q, q < k → nearU S wk cl t us[q]! = false) ∧ Hid (Below w5.heap.size w5 wr)) (fun i _ => 2 - (intOf i).toNat)
      case atStart => exact ⟨0, by omega, rfl, Lib.hid (fun q hq => absurd hq (by omega)), Lib.hid (Below.refl _ _)⟩
      case round =>
       obtain ⟨k, hk, rfl, HGi, HBi⟩ := hrel
       have hzi := HBi.out.size
       by_cases hlk : k < 2
       ·have k0 : (0 : Int) ≤ (k : Int) := by omega
        have k1 : (k : Int) < 2 := by omega
        have hkw : IntKind.i64.wrap ((k : Int) + 1) = (k : Int) + 1 := IntWalk.i64_in _ (by omega)
        have hcu := (HBi.out.cell (p := ⟨bU, k, none⟩) HbU.out).trans (HU.out k hlk)
        have hub := HUb.out k hlk
        obtain ⟨u, hu⟩ : ∃ u, us[k]! = u := ⟨_, rfl⟩
        rw [hu] at hcu hub
        have HUe := Lib.hid hu
        have q1 : wr.cell? ⟨b1, 0, none⟩ = some (.pointer (some ⟨g, 0, none⟩)) := (HBi.out.cell (p := ⟨b1, 0, none⟩) (show b1 < w5.heap.size by have := L1.out; omega)).trans HP1.out
        have q3 : wr.cell? ⟨b3, 0, none⟩ = some (.int .i64 (cl : Int)) := (HBi.out.cell (p := ⟨b3, 0, none⟩) (show b3 < w5.heap.size by have := L3.out; omega)).trans HP3.out
        have qa : wr.cell? ⟨g, 2 + wk * 4 + cl, none⟩ = some (.int .i64 gA) := (HBi.out.cell (p := ⟨g, 2 + wk * 4 + cl, none⟩) (show g < w5.heap.size by have := Lg.out; omega)).trans HA5.out
        have qb : wr.cell? ⟨g, 2 + cl * 4 + wk, none⟩ = some (.int .i64 gB) := (HBi.out.cell (p := ⟨g, 2 + cl * 4 + wk, none⟩) (show g < w5.heap.size by have := Lg.out; omega)).trans HB5g.out
        have qw : wr.cell? ⟨wo.heap.size, 1, none⟩ = some (.int .i64 (wk : Int)) := (HBi.out.cell (p := ⟨wo.heap.size, 1, none⟩) HzW.out).trans HcW.out
        have HBr : Hid (Below w.heap.size w wr) := Lib.hid (bstep HB5.out HBi.out)
        have hw1 : IntKind.i64.wrap (t - u) = t - u := IntWalk.i64_in _ (by omega)
        have hw2 : IntKind.i64.wrap (u - t) = u - t := IntWalk.i64_in _ (by omega)
        have HNu : Hid (nearU S wk cl t u = (decide (t - u < gA) && decide (u - t < gB))) := Lib.hid (by unfold nearU; rw [HgA.out, HgB.out])
        have wk0 : (0 : Int) ≤ (wk : Int) := by omega
        have wk4 : (wk : Int) < 4 := by omega
        have cl0 : (0 : Int) ≤ (cl : Int) := by omega
        have cl4 : (cl : Int) < 4 := by omega
        clear hu hub
        have HLk := Lib.hid hlk
        clear hlk
        by_cases t1 : t - u < gA
        ·have e1 : decide (t - u < gA) = true := decide_eq_true t1
         by_cases t2 : u - t < gB
         ·have e2 : decide (u - t < gB) = true := decide_eq_true t2
          rw [e1, e2] at HNu
          clear t1 t2
          go_upto_region 11 with (fail)
          have r1 := cell_regrown q1
          have r3 := cell_regrown q3
          have ra := cell_regrown qa
          have rb := cell_regrown qb
          have rw := cell_regrown qw
          refine wp_region_quiet_below (by kernel_rfl) (by kernel_rfl) ?_
          repeat (go_big_quiet_step (fail))
          refine wpQuiet_nil ?_
          intro wz hwz
          have hbz : Below wr.heap.size wr wz := by obtain ⟨⟨dq, osq⟩, rfl⟩ := hwz; exact below_regrown _ _ _
          clear hwz r1 r3 ra rb rw
          go_wp2_with fail
          go_ret
          refine ⟨?_, HBr.out.trans (hbz.mono HBr.out.size)⟩
          have hn : nearF S call cl t f = true := NFT.out (us[k]!) (HUm.out k HLk.out) (by rw [HUe.out]; exact HNu.out)
          have hfr : freeP S c.fl call cl t = false := by
           unfold freeP
           rw [Bool.not_eq_false', List.any_eq_true]
           exact ⟨f, by rw [← HF.out, getElem!_pos c.fl j (by have := HLT.out; have := HFS.out; omega)]; exact List.getElem_mem _, hn⟩
          rw [hfr]; rfl
         ·have e2 : decide (u - t < gB) = false := decide_eq_false t2
          rw [e1, e2] at HNu
          clear t1 t2
          go_upto_region 11 with (fail)
          have r1 := cell_regrown q1
          have r3 := cell_regrown q3
          have ra := cell_regrown qa
          have rb := cell_regrown qb
          have rw := cell_regrown qw
          refine wp_region_quiet_below (by kernel_rfl) (by kernel_rfl) ?_
          repeat (go_big_quiet_step (fail))
          refine wpQuiet_nil ?_
          intro wz hwz
          have hbz : Below wr.heap.size wr wz := by obtain ⟨⟨dq, osq⟩, rfl⟩ := hwz; exact below_regrown _ _ _
          clear hwz r1 r3 ra rb rw
          go_wp2_with fail
          go_roundw
          case rel => exact ⟨k + 1, by have := HLk.out; omega, by go_num, hid_step (P := fun q => nearU S wk cl t us[q]! = false) HGi (by rw [HUe.out]; exact HNu.out), Lib.hid (HBi.out.trans (hbz.mono hzi))⟩
          case measure => have := HLk.out; simp [intOf]; omega
        ·have e1 : decide (t - u < gA) = false := decide_eq_false t1
         rw [e1] at HNu
         clear t1
         go_upto_region 11 with (fail)
         have r1 := cell_regrown q1
         have r3 := cell_regrown q3
         have ra := cell_regrown qa
         have rb := cell_regrown qb
         have rw := cell_regrown qw
         refine wp_region_quiet_below (by kernel_rfl) (by kernel_rfl) ?_
         repeat (go_big_quiet_step (fail))
         refine wpQuiet_nil ?_
         intro wz hwz
         have hbz : Below wr.heap.size wr wz := by obtain ⟨⟨dq, osq⟩, rfl⟩ := hwz; exact below_regrown _ _ _
         clear hwz r1 r3 ra rb rw
         go_wp2_with fail
         go_roundw
         case rel => exact ⟨k + 1, by have := HLk.out; omega, by go_num, hid_step (P := fun q => nearU S wk cl t us[q]! = false) HGi (by rw [HUe.out]; exact HNu.out), Lib.hid (HBi.out.trans (hbz.mono hzi))⟩
         case measure => have := HLk.out; simp [intOf]; omega
       ·obtain rfl : k = 2 := by omega
        have HG2 : Hid (∀ q, q < j + 1 → nearF S call cl t c.fl[q]! = false) := hid_step HG (by rw [HF.out]; exact NFF.out (fun v hv => by obtain ⟨q, hq, e⟩ := HUall.out v hv; rw [← e]; exact HGi.out q hq))
        have HBr : Hid (Below w.heap.size w wr) := Lib.hid (bstep HB5.out HBi.out)
        go_wp2_with fail
        go_roundw
        case rel => exact ⟨j + 1, by have := HLT.out; omega, by go_num, HG2, HBr⟩
        case measure => have := HLT.out; simp [intOf]; omega
     ·rw [decide_eq_false hnx] at NF
      have NFT : Hid (∀ v, v ∈ [fland] → nearU S wk cl t v = true → nearF S call cl t f = true) := Lib.hid (fun v hv hn => by
       rw [NF.out]
       rw [List.mem_singleton.1 hv] at hn
       simp [hn])
      have NFF : Hid ((∀ v, v ∈ [fland] → nearU S wk cl t v = false) → nearF S call cl t f = false) := Lib.hid (fun hv => by
       rw [NF.out, hv fland (by simp)]; rfl)
      have hnx' : decide ((0 : Int) < (fnn : Int)) = false := decide_eq_false (by omega)
      have hnx2 : decide (0 < fnn) = false := decide_eq_false hnx
      go_wp2_with fail
      obtain ⟨w4, hw4⟩ : ∃ w4, wo.alloc (.cells #[.string fcall, .int .i64 (wk : Int), .int .i64 fslot, .bool true, .slice fla fln flc, .slice fna fnn fnc, .int .i64 fland, .int .i64 fnland] 46) = w4 := ⟨_, rfl⟩
      obtain ⟨w5, hw5⟩ : ∃ w5, w4.alloc (.cells #[.int .i64 fland] 3) = w5 := ⟨_, rfl⟩
      have z4 : w4.heap.size = wo.heap.size + 1 := by rw [← hw4, size_al]
      rw [hw4] at HBa
      have HB5 : Hid (Below w.heap.size w w5) := Lib.hid (by rw [← hw5]; exact HBa.out.alloc HBa.out.size _)
      have kW : w5.heap[wo.heap.size]? = some (.cells #[.string fcall, .int .i64 (wk : Int), .int .i64 fslot, .bool true, .slice fla fln flc, .slice fna fnn fnc, .int .i64 fland, .int .i64 fnland] 46 (0, 0)) := by rw [← hw5, al_old2 _ _ (by omega), ← hw4]; exact heap_alloc_new _ _
      have zW : wo.heap.size < w5.heap.size := (Array.getElem?_eq_some_iff.1 kW).1
      obtain ⟨bU, hbU⟩ : ∃ bU, wo.heap.size + 1 = bU := ⟨_, rfl⟩
      have kU : w5.heap[bU]? = some (.cells #[.int .i64 fland] 3 (0, 0)) := by rw [← hw5, ← hbU, ← z4]; exact heap_alloc_new _ _
      have HbU : Hid (bU < w5.heap.size) := Lib.hid (Array.getElem?_eq_some_iff.1 kU).1
      have HU : Hid (∀ q, q < 1 → w5.cell? ⟨bU, q, none⟩ = some (.int .i64 ([fland][q]!))) := Lib.hid (by intro q hq; have e : q = 0 := (by omega); subst e; exact cell_of_row _ _ 0 _ _ _ kU)
      rw [hw4, hw5, hbU]
      clear hw4 hw5 hbU kU z4 d0 d1 d2 d3 d4 d5 d6 d7 e4
      have HzW : Hid (wo.heap.size < w5.heap.size) := Lib.hid zW
      have HcW : Hid (w5.cell? ⟨wo.heap.size, 1, none⟩ = some (.int .i64 (wk : Int))) := Lib.hid (cell_of_row _ _ 1 _ _ _ kW)
      have HUm : Hid (∀ q, q < 1 → [fland][q]! ∈ [fland]) := Lib.hid (fun q hq => by rw [getElem!_pos _ q (by simpa using hq)]; exact List.getElem_mem _)
      have HUall : Hid (∀ v, v ∈ [fland] → ∃ q, q < 1 ∧ [fland][q]! = v) := Lib.hid (fun v hv => by obtain ⟨q, hq, e⟩ := List.getElem_of_mem hv; exact ⟨q, by simpa using hq, by rw [getElem!_pos _ q hq]; exact e⟩)
      have HUb : Hid (∀ q : Nat, q < 1 → 0 ≤ [fland][q]! ∧ [fland][q]! ≤ 200000) := Lib.hid (fun q hq => by
       obtain rfl : q = 0 := by omega
       exact bl)
      obtain ⟨us, hus⟩ : ∃ us : List Int, [fland] = us := ⟨_, rfl⟩
      rw [hus] at HUm HUall HUb HU NFT NFF
      clear hus zW kW
      have hM5 := HM.out w5 HB5.out
      have h5g := hM5.cell (2 + wk * 4 + cl)
      have h5h := hM5.cell (2 + cl * 4 + wk)
      have hgA : w5.cell? ⟨g, 2 + wk * 4 + cl, none⟩ = some (.int .i64 gA) := by rw [h5g, gap_cell S c y wk cl (by omega) hcl, HgA.out]
      have hgB : w5.cell? ⟨g, 2 + cl * 4 + wk, none⟩ = some (.int .i64 gB) := by rw [h5h, gap_cell S c y cl wk hcl (by omega), HgB.out]
      have HA5 := Lib.hid hgA
      have HB5g := Lib.hid hgB
      have p1 := (HB5.out.cell (p := ⟨b1, 0, none⟩) L1.out).trans C1.out
      have p3 := (HB5.out.cell (p := ⟨b3, 0, none⟩) L3.out).trans C3.out
      have HP1 := Lib.hid p1
      have HP3 := Lib.hid p3
      have zBo := HB5.out.size
      clear hM5 h5g h5h hgA hgB p1 p3
      go_loopw [43] (fun i wr => ∃ k : Nat, k ≤ 1 ∧ i = .int .i64 (k : Int) ∧ Hid (∀ q, q < k → nearU S wk cl t us[q]! = false) ∧ Hid (Below w5.heap.size w5 wr)) (fun i _ => 1 - (intOf i).toNat)
      case atStart => exact ⟨0, by omega, rfl, Lib.hid (fun q hq => absurd hq (by omega)), Lib.hid (Below.refl _ _)⟩
      case round =>
       obtain ⟨k, hk, rfl, HGi, HBi⟩ := hrel
       have hzi := HBi.out.size
       by_cases hlk : k < 1
       ·have k0 : (0 : Int) ≤ (k : Int) := by omega
        have k1 : (k : Int) < 1 := by omega
        have hkw : IntKind.i64.wrap ((k : Int) + 1) = (k : Int) + 1 := IntWalk.i64_in _ (by omega)
        have hcu := (HBi.out.cell (p := ⟨bU, k, none⟩) HbU.out).trans (HU.out k hlk)
        have hub := HUb.out k hlk
        obtain ⟨u, hu⟩ : ∃ u, us[k]! = u := ⟨_, rfl⟩
        rw [hu] at hcu hub
        have HUe := Lib.hid hu
        have q1 : wr.cell? ⟨b1, 0, none⟩ = some (.pointer (some ⟨g, 0, none⟩)) := (HBi.out.cell (p := ⟨b1, 0, none⟩) (show b1 < w5.heap.size by have := L1.out; omega)).trans HP1.out
        have q3 : wr.cell? ⟨b3, 0, none⟩ = some (.int .i64 (cl : Int)) := (HBi.out.cell (p := ⟨b3, 0, none⟩) (show b3 < w5.heap.size by have := L3.out; omega)).trans HP3.out
        have qa : wr.cell? ⟨g, 2 + wk * 4 + cl, none⟩ = some (.int .i64 gA) := (HBi.out.cell (p := ⟨g, 2 + wk * 4 + cl, none⟩) (show g < w5.heap.size by have := Lg.out; omega)).trans HA5.out
        have qb : wr.cell? ⟨g, 2 + cl * 4 + wk, none⟩ = some (.int .i64 gB) := (HBi.out.cell (p := ⟨g, 2 + cl * 4 + wk, none⟩) (show g < w5.heap.size by have := Lg.out; omega)).trans HB5g.out
        have qw : wr.cell? ⟨wo.heap.size, 1, none⟩ = some (.int .i64 (wk : Int)) := (HBi.out.cell (p := ⟨wo.heap.size, 1, none⟩) HzW.out).trans HcW.out
        have HBr : Hid (Below w.heap.size w wr) := Lib.hid (bstep HB5.out HBi.out)
        have hw1 : IntKind.i64.wrap (t - u) = t - u := IntWalk.i64_in _ (by omega)
        have hw2 : IntKind.i64.wrap (u - t) = u - t := IntWalk.i64_in _ (by omega)
        have HNu : Hid (nearU S wk cl t u = (decide (t - u < gA) && decide (u - t < gB))) := Lib.hid (by unfold nearU; rw [HgA.out, HgB.out])
        have wk0 : (0 : Int) ≤ (wk : Int) := by omega
        have wk4 : (wk : Int) < 4 := by omega
        have cl0 : (0 : Int) ≤ (cl : Int) := by omega
        have cl4 : (cl : Int) < 4 := by omega
        clear hu hub
        have HLk := Lib.hid hlk
        clear hlk
        by_cases t1 : t - u < gA
        ·have e1 : decide (t - u < gA) = true := decide_eq_true t1
         by_cases t2 : u - t < gB
         ·have e2 : decide (u - t < gB) = true := decide_eq_true t2
          rw [e1, e2] at HNu
          clear t1 t2
          go_upto_region 11 with (fail)
          have r1 := cell_regrown q1
          have r3 := cell_regrown q3
          have ra := cell_regrown qa
          have rb := cell_regrown qb
          have rw := cell_regrown qw
          refine wp_region_quiet_below (by kernel_rfl) (by kernel_rfl) ?_
          repeat (go_big_quiet_step (fail))
          refine wpQuiet_nil ?_
          intro wz hwz
          have hbz : Below wr.heap.size wr wz := by obtain ⟨⟨dq, osq⟩, rfl⟩ := hwz; exact below_regrown _ _ _
          clear hwz r1 r3 ra rb rw
          go_wp2_with fail
          go_ret
          refine ⟨?_, HBr.out.trans (hbz.mono HBr.out.size)⟩
          have hn : nearF S call cl t f = true := NFT.out (us[k]!) (HUm.out k HLk.out) (by rw [HUe.out]; exact HNu.out)
          have hfr : freeP S c.fl call cl t = false := by
           unfold freeP
           rw [Bool.not_eq_false', List.any_eq_true]
           exact ⟨f, by rw [← HF.out, getElem!_pos c.fl j (by have := HLT.out; have := HFS.out; omega)]; exact List.getElem_mem _, hn⟩
          rw [hfr]; rfl
         ·have e2 : decide (u - t < gB) = false := decide_eq_false t2
          rw [e1, e2] at HNu
          clear t1 t2
          go_upto_region 11 with (fail)
          have r1 := cell_regrown q1
          have r3 := cell_regrown q3
          have ra := cell_regrown qa
          have rb := cell_regrown qb
          have rw := cell_regrown qw
          refine wp_region_quiet_below (by kernel_rfl) (by kernel_rfl) ?_
          repeat (go_big_quiet_step (fail))
          refine wpQuiet_nil ?_
          intro wz hwz
          have hbz : Below wr.heap.size wr wz := by obtain ⟨⟨dq, osq⟩, rfl⟩ := hwz; exact below_regrown _ _ _
          clear hwz r1 r3 ra rb rw
          go_wp2_with fail
          go_roundw
          case rel => exact ⟨k + 1, by have := HLk.out; omega, by go_num, hid_step (P := fun q => nearU S wk cl t us[q]! = false) HGi (by rw [HUe.out]; exact HNu.out), Lib.hid (HBi.out.trans (hbz.mono hzi))⟩
          case measure => have := HLk.out; simp [intOf]; omega
        ·have e1 : decide (t - u < gA) = false := decide_eq_false t1
         rw [e1] at HNu
         clear t1
         go_upto_region 11 with (fail)
         have r1 := cell_regrown q1
         have r3 := cell_regrown q3
         have ra := cell_regrown qa
         have rb := cell_regrown qb
         have rw := cell_regrown qw
         refine wp_region_quiet_below (by kernel_rfl) (by kernel_rfl) ?_
         repeat (go_big_quiet_step (fail))
         refine wpQuiet_nil ?_
         intro wz hwz
         have hbz : Below wr.heap.size wr wz := by obtain ⟨⟨dq, osq⟩, rfl⟩ := hwz; exact below_regrown _ _ _
         clear hwz r1 r3 ra rb rw
         go_wp2_with fail
         go_roundw
         case rel => exact ⟨k + 1, by have := HLk.out; omega, by go_num, hid_step (P := fun q => nearU S wk cl t us[q]! = false) HGi (by rw [HUe.out]; exact HNu.out), Lib.hid (HBi.out.trans (hbz.mono hzi))⟩
         case measure => have := HLk.out; simp [intOf]; omega
       ·obtain rfl : k = 1 := by omega
        have HG2 : Hid (∀ q, q < j + 1 → nearF S call cl t c.fl[q]! = false) := hid_step HG (by rw [HF.out]; exact NFF.out (fun v hv => by obtain ⟨q, hq, e⟩ := HUall.out v hv; rw [← e]; exact HGi.out q hq))
        have HBr : Hid (Below w.heap.size w wr) := Lib.hid (bstep HB5.out HBi.out)
        go_wp2_with fail
        go_roundw
        case rel => exact ⟨j + 1, by have := HLT.out; omega, by go_num, HG2, HBr⟩
        case measure => have := HLT.out; simp [intOf]; omega
  ·obtain rfl : j = nf := by omega
   have hany : freeP S c.fl call cl t = true := by
    unfold freeP
    rw [Bool.not_eq_true', List.any_eq_false]
    intro f hf
    obtain ⟨k, hk, rfl⟩ := List.getElem_of_mem hf
    have := HG.out k (by have := HFS.out; omega)
    rw [getElem!_pos c.fl k hk] at this
    rw [this]; simp
   have HA := Lib.hid hany
   clear hany
   go_wp2_with fail
   go_ret
   exact ⟨by rw [HA.out]; rfl, HB.out⟩
end
section
open Go.RowKit
set_option maxRecDepth 100000 in
set_option maxHeartbeats 8000000 in
theorem landing_any {F : Nat → Prop} {g : Nat} {S : Su} {c : Ce} {y : Lay} {w : World} (h : CeM F g S c y w) (hok : CeOk c) (hS : SuOk S) (call : ByteArray) (wk : Int) (hw : 0 ≤ wk ∧ wk ≤ 3) (A : Option Addr) (n cA : Nat) (l : Tu) (hA : TuA A n l w) (hl : TuOk l) :
  Calls Tryz.prog 106 #[.pointer (some ⟨g, 0, none⟩), .string call, .int .i64 wk, .slice A n cA] w fun e w' => e = .returned (.int .i64 (landP S c.fl call wk l)) ∧ Below w.heap.size w w' := by
 obtain ⟨cl, rfl⟩ : ∃ cl : Nat, wk = (cl : Int) := ⟨wk.toNat, by omega⟩
 obtain ⟨j0, hj0, hland, hfree, hbusy⟩ := landP_spec hS hok.fl call hw hl.lst0 hl.lst1
 have hn0 : 0 < n := by rw [← hA.1]; exact hl.n0
 have hn64 : n ≤ 64 := by rw [← hA.1]; exact hl.n1
 obtain ⟨t0, ht0⟩ : ∃ t0, lstT l = t0 := ⟨_, rfl⟩
 have b0 : 0 ≤ t0 := by rw [← ht0]; exact hl.lst0
 have b1 : t0 ≤ 200000 := by rw [← ht0]; exact hl.lst1
 rw [ht0] at hland hfree hbusy
 rw [hland]
 rw [Int.toNat_natCast] at hfree hbusy
 obtain ⟨B0, hB0⟩ : ∃ B0, w.heap.size = B0 := ⟨_, rfl⟩
 obtain ⟨W0, hW0⟩ : ∃ W0, ((w.alloc (.cells #[.pointer (some ⟨g, 0, none⟩)] 37)).alloc (.cells #[.string call] 9)).alloc (.cells #[.int .i64 (cl : Int)] 3) = W0 := ⟨_, rfl⟩
 have hz0 : W0.heap.size = B0 + 3 := by rw [← hW0, size_al, size_al, size_al, hB0]
 have hb0 : Below w.heap.size w W0 := by
  rw [← hW0]
  exact (((Below.refl _ w).alloc (Nat.le_refl _) _).alloc (by rw [size_al]; omega) _).alloc (by rw [size_al, size_al]; omega) _
 have e1 := heap_alloc_new w (.cells #[.pointer (some ⟨g, 0, none⟩)] 37)
 have e2 := heap_alloc_new (w.alloc (.cells #[.pointer (some ⟨g, 0, none⟩)] 37)) (.cells #[.string call] 9)
 have e3 := heap_alloc_new ((w.alloc (.cells #[.pointer (some ⟨g, 0, none⟩)] 37)).alloc (.cells #[.string call] 9)) (.cells #[.int .i64 (cl : Int)] 3)
 rw [size_al] at e2
 rw [size_al, size_al] at e3
 rw [hB0] at e1 e2 e3
 have k1 : W0.heap[B0]? = some (.cells #[.pointer (some ⟨g, 0, none⟩)] 37 (0, 0)) := by
  rw [← hW0, al_old2 _ _ (by rw [size_al, size_al]; omega), al_old2 _ _ (by rw [size_al]; omega)]; exact e1
 have k2 : W0.heap[B0 + 1]? = some (.cells #[.string call] 9 (0, 0)) := by
  rw [← hW0, al_old2 _ _ (by rw [size_al, size_al]; omega)]; exact e2
 have k3 : W0.heap[B0 + 1 + 1]? = some (.cells #[.int .i64 (cl : Int)] 3 (0, 0)) := by rw [← hW0]; exact e3
 have HL := Lib.hid (last_any A n cA l W0 (hA.below hb0) hn0 hn64)
 rw [ht0] at HL
 have HM := Lib.hid (h.below hb0)
 have HFr := Lib.hid (fun (W : World) (t : Int) (hb : Below W0.heap.size W0 W) (ht : 0 ≤ t ∧ t ≤ 600000) => free_any (HM.out.below hb) hok call cl (by omega) t ht B0 (B0 + 1) (B0 + 1 + 1)
  (by have := hb.size; omega) (by have := hb.size; omega) (by have := hb.size; omega) (cell_of_row _ _ 0 _ _ _ ((hb.block _ (by omega)).trans k1)) (cell_of_row _ _ 0 _ _ _ ((hb.block _ (by omega)).trans k2)) (cell_of_row _ _ 0 _ _ _ ((hb.block _ (by omega)).trans k3)))
 unfold FreeP at HFr
 have HF := Lib.hid hfree
 have HBu := Lib.hid hbusy
 have HB0 := Lib.hid hb0
 have hj6 : (j0 : Int) ≤ 300000 := by have : farN = 300000 := rfl; omega
 have HSz := Lib.hid hB0
 clear k1 k2 k3 e1 e2 e3 hb0 hz0 hfree hbusy hA h ht0 hland hj0
 go_enter Tryz.func106, Tryz.ntmps106
 go_wp2_with (go_at_call 104; go_loud (refine HL.out.mono ?_; rintro e w1 ⟨rfl, hww⟩; subst w1))
 go_loopw [10] (fun v wr => ∃ j : Nat, j ≤ j0 ∧ v = .int .i64 (t0 + (j : Int)) ∧ Hid (Below W0.heap.size W0 wr)) (fun v _ => (t0 + (j0 : Int) - intOf v).toNat)
 case atStart => exact ⟨0, by omega, by simp, Lib.hid (Below.refl _ _)⟩
 case round =>
  obtain ⟨j, hj, rfl, HB⟩ := hrel
  have HC := Lib.hid (HFr.out wr (t0 + (j : Int)) HB.out (by omega))
  by_cases hlt : j < j0
  ·rw [HBu.out j hlt] at HC
   have hjw : IntKind.i64.wrap (t0 + (j : Int) + 1) = t0 + (j : Int) + 1 := IntWalk.i64_in _ (by omega)
   have HLT := Lib.hid hlt
   clear hlt
   go_wp2_with (go_at_call 155; go_loud (refine HC.out.mono ?_; rintro e w2 ⟨rfl, hb2⟩))
   go_roundw
   case rel => exact ⟨j + 1, by have := HLT.out; omega, by go_num, Lib.hid (HB.out.trans (hb2.mono HB.out.size))⟩
   case measure => have := HLT.out; simp [intOf]; omega
  ·obtain rfl : j = j0 := by omega
   rw [HF.out] at HC
   go_wp2_with (go_at_call 155; go_loud (refine HC.out.mono ?_; rintro e w2 ⟨rfl, hb2⟩))
   go_ret
   refine ⟨rfl, HB0.out.trans ((HB.out.trans (hb2.mono HB.out.size)).mono HB0.out.size)⟩
end
section
open Go.RowKit
theorem clear_fin {F : Nat → Prop} {g : Nat} {S : Su} {c : Ce} {y : Lay} {w W4 : World} (x : Inp) (hM : CeM F g S c y W4) (hbd : ∀ b, F b → b < w.heap.size) (hW : Below w.heap.size w W4) (p : Nat) (hp : p < c.fl.length) (hpe : lowO c.ow x.call = p) {b : Nat} (hA : y.fh.A = some ⟨b, 0, none⟩)
  (A2 : Option Addr) (base c2 : Nat) (hbase : w.heap.size ≤ base) (hnew : W4.ownsRow base 52 6 (.slice A2 x.tube.length c2) x.tube.length (rowsV ndV x.tube)) :
  MethP F g S w (setF c x (clearF S c x), 0) (.returned (.int .i64 0)) ((W4.setCell ⟨b, p * 8 + 5, none⟩ (.slice A2 x.tube.length c2)).setCell ⟨b, p * 8 + 7, none⟩ (.int .i64 (clearF S c x).nland)) := by
 obtain ⟨b', hA', hFb, hbl, cur, hbc⟩ := hM.fblk (by omega)
 rw [hA] at hA'; cases hA'
 have hzW := hW.size
 have hflo : flOf c x = c.fl[p]! := by unfold flOf; rw [hpe]
 obtain ⟨s1, s2, s3, s4, s5⟩ := hM.setCells hA p hp [(5, .slice A2 x.tube.length c2), (7, .int .i64 (clearF S c x).nland)] { y.fs[p]! with na := A2, nn := x.tube.length, nc := c2, nland := (clearF S c x).nland } (by intro u hu; simp only [List.mem_cons, List.not_mem_nil, or_false] at hu; rcases hu with rfl | rfl <;> simp) rfl
 simp only [List.foldl_cons, List.foldl_nil] at s1 s2 s3 s4 s5
 have hold := s4.fl hM p hp (fun _ _ h => h)
 refine ⟨rfl, fun k => F k ∨ (w.heap.size ≤ k ∧ k < W4.heap.size), ?_, ?_, fun k hk => hk.elim .inl (fun h => .inr h.1)⟩
 ·have hS : (setF c x (clearF S c x), (0 : Int)).1 = { c with fl := c.fl.set p (clearF S c x) } := by unfold setF; rw [hpe]
  rw [hS]
  refine CeM.at_ (y := { y with fs := y.fs.set p { y.fs[p]! with na := A2, nn := x.tube.length, nc := c2, nland := (clearF S c x).nland }, ts := y.ts.set p y.ts[p]! }) ?_
  refine hM.setFl (fun _ h => .inl h) p hp _ y.ts[p]! (clearF S c x) s4 (fun k hk => by rw [← s2]; exact hk.elim (fun h => by have := hbd k h; omega) (fun h => h.2)) (s3 g (hM.gne hbc)) ?_ ?_ (fun _ _ _ _ _ h => h) (fun i k hi hne hk => ?_)
  ·have e : y.fh.v = .slice (some ⟨b, 0, none⟩) c.fl.length y.fh.c := by unfold Hd.v; rw [hA, hM.fh]
   rw [e]; exact s5
  ·have hn4 : OwnF (fun k => F k ∨ (w.heap.size ≤ k ∧ k < W4.heap.size)) W4 52 6 (.slice A2 x.tube.length c2) x.tube.length (rowsV ndV x.tube) := ⟨own_mono hnew (Nat.zero_le _), fun k hk => by
    have := hnew.lt k hk
    exact .inr ⟨by omega, by omega⟩⟩
   have hn5 := hn4.stay (w' := (W4.setCell ⟨b, p * 8 + 5, none⟩ (.slice A2 x.tube.length c2)).setCell ⟨b, p * 8 + 7, none⟩ (.int .i64 (clearF S c x).nland)) (fun k hk => s3 k (fun e => hn4.other hbc (by decide) (by rw [hk, e])))
   exact ⟨hold.call.trans (by rw [← hflo]; rfl), hold.wake.trans (by rw [← hflo]; rfl), hold.slot.trans (by rw [← hflo]; rfl), hold.lands.trans (by rw [← hflo]; rfl), hold.land.trans (by rw [← hflo]; rfl), rfl, by rw [← hflo] at hold; exact hold.ln, by rw [← hflo] at hold; exact hold.tl, by rw [← hflo] at hold; exact hold.legs.mono (fun _ h => .inl h), fun j hj => by rw [← hflo] at hold; exact ⟨(hold.leg j hj).1, (hold.leg j hj).2.mono (fun _ h => .inl h)⟩, ⟨rfl, hn5⟩⟩
  ·exact hM.apart p i k hp hi (fun e => hne e.symm) hk
 ·exact ((Off.of_below hW).setCell (p := ⟨b, p * 8 + 5, none⟩) (.inl hFb) _).setCell (p := ⟨b, p * 8 + 7, none⟩) (.inl hFb) _
theorem ofP (l : List Ow) (s : ByteArray) (A : Option Addr) (n c : Nat) (w : World) (hA : OwA A n l w) (hok : OwOk l) :
  (isO l s = false → Calls Tryz.prog 111 #[.slice A n c, .string s] w fun e w' => e = .returned (.tuple #[.string .empty, .int .i64 8]) ∧ Below w.heap.size w w') ∧
  (isO l s = true → Calls Tryz.prog 111 #[.slice A n c, .string s] w fun e w' => e = .returned (.tuple #[.string (l[lowO l s]!).owner, .int .i64 0]) ∧ Below w.heap.size w w') := by
 have h := Of_any A l n c s w hA hok
 refine ⟨fun hi => ?_, fun hi => ?_⟩
 ·rw [hi, if_neg (by decide)] at h; exact h
 ·rw [if_pos hi] at h; exact h
end
end Go.Proofs.YtaebebpldkciiaaGreatDoor
