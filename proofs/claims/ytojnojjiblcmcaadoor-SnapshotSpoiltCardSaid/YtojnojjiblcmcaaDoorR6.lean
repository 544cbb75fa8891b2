/- The walk of SnapshotSpoilt. -/
import Derived.Test.YtojnojjiblcmcaaDoorR5
import Derived.Test.YtojnojjiblcmcaaDoorCut
import Derived.Test.YtojnojjiblcmcaaDoorShI
namespace Go.Proofs.YtojnojjiblcmcaaDoor
open Go.RowKit
open Go.Lib hiding intOf

theorem IndexB_any (s : ByteArray) (w : World) : Calls Tryd.prog 18 #[.string s, .int .u8 10] w fun e w' => e = .returned (.int .i64 (indexByte (by_ s) 10)) ∧ w = w' :=
  (Any.strings_IndexByte Tryd.lays137 s 10 w).mono fun _ _ h => ⟨h.1, h.2.symm⟩

theorem slice22 {A : Option Addr} {c : Nat} (n q : Nat) (hq : q ≤ n) (hn : n ≤ c) (hnil : A = none → n = 0 ∧ c = 0) (W : World) : (Instr.slice 22 (.slice A n c) none (some (.int .i64 (q : Int))) none).run Tryd.prog W = .ok (.slice A q c) W := by
  have h0 : (0 : Int) ≤ (q : Int) := by omega
  have h1 : (q : Int) ≤ (c : Int) := by omega
  cases A with
  | none =>
    obtain ⟨rfl, rfl⟩ := hnil rfl
    obtain rfl : q = 0 := by omega
    go_simp
  | some a => go_simp

theorem Sl.two {w : World} {B n : Nat} {A : Option Addr} {l : List Rw} (h : Sl w B 2 A n (fun i => rwV l[i]!)) (i : Nat) (hi : i < n) : ∃ b off, A = some ⟨b, off, none⟩ ∧ b < B ∧
    w.cell? ⟨b, off + i * 2, none⟩ = some (.string (l[i]!).1) ∧ w.cell? ⟨b, off + i * 2 + 1, none⟩ = some (.string (l[i]!).2) := by
  obtain ⟨b, off, e, hb, hr⟩ := h (by omega)
  have h0 := hr i hi 0 _ rfl
  rw [Nat.add_zero] at h0
  exact ⟨b, off, e, hb, h0, hr i hi 1 _ rfl⟩

set_option maxRecDepth 100000 in
set_option maxHeartbeats 4000000 in
theorem Spoilt_walk (A : Option Addr) (n c : Nat) (l : List Rw) (z a y : Int) (w : World) (h : StAt l A n w) (hc : n ≤ c) (hnil : A = none → n = 0 ∧ c = 0) (hy : 0 ≤ y ∧ y ≤ 255) (he : EnvS w) :
    Calls Tryd.prog 6 #[.slice A n c, .int .i64 z, .int .i64 a, .int .u8 y] w fun v w' => v = .returned (.bool true) ∧ Below w.heap.size w w' := by
  have hln := h.len
  subst hln
  obtain ⟨v, rfl⟩ : ∃ v : UInt8, y = (v.toNat : Int) := ⟨UInt8.ofNat y.toNat, by rw [UInt8.toNat_ofNat_of_lt' (by show y.toNat < 256; omega)]; omega⟩
  clear hy
  have HH := Lib.hid h
  have HV := Lib.hid he
  have HFa := Lib.hid (Fact_any w he.tab he.big)
  have HT := Lib.hid (fun W (hW : Below w.heap.size w W) => Text_any A l.length c l W (h.below hW).sl rfl h.z h.le (he.below hW).tab (he.below hW).big)
  have hle := h.le
  unfold maxLen at hle
  unfold TextP at HT
  clear h he
  by_cases hck : checkL l = 0
  · have hf := fine_of hck
    rw [show textL l = textB l from by unfold textL; rw [if_pos hck], hck] at HT
    have HFi := Lib.hid hf
    by_cases hn0 : l.length = 0
    · have d0 : (((l.length : Nat) : Int) == 0) = true := by simp [hn0]
      have d1 : decide (((l.length : Nat) : Int) = 0) = true := by simp [hn0]
      clear hn0 hck hf
      go_enter Tryd.func6, Tryd.ntmps6
      go_wp2_with (first
        | (go_at_call 9; go_loud (refine HFa.out.mono ?_; rintro e w1 ⟨rfl, hb1⟩))
        | (go_at_call 14; go_loud (refine (HT.out _ hb1).mono ?_; rintro e w2 ⟨rfl, hb2⟩)))
      go_ret
      exact ⟨rfl, bstep hb1 hb2⟩
    · have d0 : (((l.length : Nat) : Int) == 0) = false := by simpa using hn0
      have hsw : IntKind.i64.wrap ((l.length : Int) - 1) = (l.length : Int) - 1 := IntWalk.i64_in _ (by omega)
      have hcb := cutI_bd (n := z) (lo := 0) (hi := (l.length : Int) - 1) (by omega)
      obtain ⟨k, hk⟩ : ∃ k : Nat, cutI z 0 ((l.length : Int) - 1) = (k : Int) := ⟨(cutI z 0 ((l.length : Int) - 1)).toNat, by omega⟩
      have hkl : k < l.length := by omega
      have HK := Lib.hid hk
      have hk0 : (0 : Int) ≤ (k : Int) := by omega
      have hkn : (k : Int) < (l.length : Int) := by omega
      obtain ⟨bA, oA, rfl, hbA, r0, r1⟩ := Sl.two HH.out.sl k hkl
      have hsm := fine_small hf l[k]! (by rw [getElem!_pos l k hkl]; exact List.getElem_mem hkl)
      have HPl := Lib.hid (fun o ho => place_lt (l := l) hkl (o := o) ho)
      obtain ⟨kk, hkk⟩ : ∃ kk, (l[k]!).1 = kk := ⟨_, rfl⟩
      obtain ⟨kv, hkv⟩ : ∃ kv, (l[k]!).2 = kv := ⟨_, rfl⟩
      rw [hkk] at r0 hsm HPl
      rw [hkv] at r1 hsm HPl
      clear hkk hkv hk hcb hn0
      have hl64 := hf.len
      have htl := text_len l
      have hts := textB_size hf
      have htc := hexL_chars (digN l)
      have hix := indexByte_nl (hb (digN l)) (by_ (linesB l)) htc
      rw [← by_text2] at hix
      have HSp := Lib.hid (fun q b v hb0 => spoilt_read hf (q := q) (b := b) (v := v) hb0)
      have HIx := Lib.hid (fun W => IndexB_any (textB l) W)
      rw [hix] at HIx
      have hP0 : (linesB (l.take 0)).size = 0 := rfl
      have HPs := Lib.hid (fun j (hj : j < l.length) => show (linesB (l.take (j + 1))).size = (linesB (l.take j)).size + ((l[j]!).1.size + (l[j]!).2.size + 2) from by
        rw [linesB_step l hj, ByteArray.size_append, lnB_size])
      have HPm := Lib.hid (fun j => show (linesB (l.take j)).size ≤ (linesB l).size from by
        have e : linesB l = linesB (l.take j) ++ linesB (l.drop j) := by rw [← linesB_append, List.take_append_drop]
        rw [e, ByteArray.size_append]; omega)
      have HSm := Lib.hid (fun j (hj : j < l.length) => fine_small hf l[j]! (by rw [getElem!_pos l j hj]; exact List.getElem_mem hj))
      obtain ⟨P, hP⟩ : ∃ P : Nat → Nat, ∀ j, (linesB (l.take j)).size = P j := ⟨fun j => (linesB (l.take j)).size, fun _ => rfl⟩
      simp only [hP] at hP0 HPs HPm HPl
      obtain ⟨S, hS⟩ : ∃ S, textB l = S := ⟨_, rfl⟩
      obtain ⟨H, hH⟩ : ∃ H, (hb (digN l)).length = H := ⟨_, rfl⟩
      obtain ⟨M, hM⟩ : ∃ M, (linesB l).size = M := ⟨_, rfl⟩
      rw [hS] at HT htl hts HSp HIx
      rw [hH] at htl HSp HIx
      rw [hM] at htl HPl HPm
      have HTl := Lib.hid htl
      have hHM : H + 1 + M ≤ 8192 := by omega
      clear htl
      have hwH : IntKind.i64.wrap ((H : Int) + 1) = (H : Int) + 1 := IntWalk.i64_in _ (by omega)
      obtain ⟨hs1, hs2⟩ := hsm
      have hsl := fun W => slice22 (A := some ⟨bA, oA, none⟩) (c := c) l.length k (by omega) hc hnil W
      clear hix htc hS hH hM hf hck hP
      have R0 := Lib.hid r0
      have R1 := Lib.hid r1
      have kc := fun (W : World) => Go.Lib.run_convert_string_bytes (P := Tryd.prog) W 9 40 5 S Tryd.underlying9 Tryd.underlying40 Tryd.underlying5
      clear r0 r1
      go_enter Tryd.func6, Tryd.ntmps6
      go_wp2_with fail
      refine HFa.out.mono ?_
      rintro e w1 ⟨rfl, hb1⟩
      go_wp2_with fail
      refine (HT.out _ hb1).mono ?_
      rintro e w2 ⟨rfl, hb2⟩
      have B2 := bstep hb1 hb2
      have c0 := (B2.cell (p := ⟨bA, oA + k * 2, none⟩) hbA).trans R0.out
      have c1 := (B2.cell (p := ⟨bA, oA + k * 2 + 1, none⟩) hbA).trans R1.out
      have hbA2 : bA < w2.heap.size := Nat.lt_of_lt_of_le hbA B2.size
      clear hb1 hb2
      by_cases hv0 : kv.size = 0
      · have e0 : ((kv.size : Int) == 0) = true := by simp [hv0]
        have e1 : decide ((kv.size : Int) = 0) = true := by simp [hv0]
        clear hv0
        go_wp2_with (go_at_call 17; go_loud (refine (Cut_any _ _ _ _ (by omega) (by omega) (by omega)).mono ?_; rintro e w3 ⟨rfl, rfl⟩; rw [HK.out]))
        go_ret
        exact ⟨rfl, B2⟩
      · have e0 : ((kv.size : Int) == 0) = false := by simpa using hv0
        obtain ⟨W3, hW3⟩ : ∃ W3, bytesWorld w2 5 S = W3 := ⟨_, rfl⟩
        have hb3 : Below w2.heap.size w2 W3 := by rw [← hW3]; exact below_bytes w2 5 S
        have hbc : ∀ j b, (by_ S)[j]? = some b → W3.cell? ⟨w2.heap.size, j, none⟩ = some (.int .u8 (b.toNat : Int)) := fun j b hj => by
          have hjl := (List.getElem?_eq_some_iff.1 hj).1
          rw [size_by] at hjl
          have := bytesWorld_cell w2 5 S j hjl
          rw [← hW3, this, List.getD_eq_getElem?_getD, show S.data.toList[j]? = some b from hj]
          rfl
        have hgl : w2.heap.size < W3.heap.size := by rw [← hW3, bytesWorld_size]; omega
        have hcw : S.size ≤ grownCap w2 S.size 0 5 := grownCap_ge _ _ _ _
        have HW3 := Lib.hid hW3
        have HB3 := Lib.hid hb3
        have HBc := Lib.hid hbc
        clear hb3 hbc
        go_wp2_with (first
          | (go_at_call 17; go_loud (refine (Cut_any _ _ _ _ (by omega) (by omega) (by omega)).mono ?_; rintro e w3 ⟨rfl, rfl⟩; rw [HK.out]))
          | (go_at_call 18; go_loud (refine (HIx.out _).mono ?_; rintro e w3 ⟨rfl, rfl⟩)))
        have HR3 := Lib.hid (Below.refl W3.heap.size W3)
        have B3 := Lib.hid (bstep B2 HB3.out)
        clear c0 c1 kc hW3 hcw hbA2
        go_loopw [12, 14, 52] (fun t12 _ i wr => ∃ j : Nat, j ≤ k ∧ i = .int .i64 (j : Int) ∧ t12 = .int .i64 ((H + 1 + P j : Nat) : Int) ∧ Below W3.heap.size W3 wr) (fun _ _ i _ => k - (intOf i).toNat)
        case atStart => exact ⟨0, by omega, rfl, by rw [hP0]; rfl, HR3.out⟩
        case round =>
          obtain ⟨j, hj, rfl, rfl, hbr⟩ := hrel
          have hbW : Below w.heap.size w _ := bstep B3.out hbr
          have HbW := Lib.hid hbW
          by_cases hlt : j < k
          · have hj0 : (0 : Int) ≤ (j : Int) := by omega
            have hjk : (j : Int) < (k : Int) := by omega
            obtain ⟨b2, o2, he2, hb2', q0, q1⟩ := Sl.two HH.out.sl j (by omega)
            obtain ⟨rfl, rfl⟩ : bA = b2 ∧ oA = o2 := by injection he2 with he2; injection he2 with x1 x2 _; exact ⟨x1, x2⟩
            have p0 := (hbW.cell (p := ⟨bA, oA + j * 2, none⟩) hbA).trans q0
            have p1 := (hbW.cell (p := ⟨bA, oA + j * 2 + 1, none⟩) hbA).trans q1
            have hps := HPs.out j (by omega)
            have hsm := HSm.out j (by omega)
            have hpm := HPm.out (j + 1)
            obtain ⟨x, hx⟩ : ∃ x, l[j]! = x := ⟨_, rfl⟩
            rw [hx] at p0 p1 hps hsm
            obtain ⟨xk, xv⟩ := x
            simp only at p0 p1 hps hsm
            obtain ⟨m1, m2⟩ := hsm
            have HPs2 := Lib.hid hps
            have hwa : IntKind.i64.wrap ((xk.size : Int) + (xv.size : Int)) = (xk.size : Int) + (xv.size : Int) := IntWalk.i64_in _ (by omega)
            have hwb : IntKind.i64.wrap ((xk.size : Int) + (xv.size : Int) + 2) = (xk.size : Int) + (xv.size : Int) + 2 := IntWalk.i64_in _ (by omega)
            have hwc : IntKind.i64.wrap (((H + 1 + P j : Nat) : Int) + ((xk.size : Int) + (xv.size : Int) + 2)) = ((H + 1 + P (j + 1) : Nat) : Int) := by rw [IntWalk.i64_in _ (by omega)]; omega
            obtain ⟨Y, hY⟩ : ∃ Y : Nat, H + 1 + P j = Y := ⟨_, rfl⟩
            obtain ⟨Y2, hY2⟩ : ∃ Y2 : Nat, H + 1 + P (j + 1) = Y2 := ⟨_, rfl⟩
            have HY2 := Lib.hid hY2
            rw [hY, hY2] at hwc
            rw [hY]
            clear hY hY2 hx he2 q0 q1 hps
            go_wp2_with fail
            go_roundw
            case rel => exact ⟨j + 1, by omega, by go_num, by rw [HY2.out], hbr.alloc hbr.size _⟩
            case measure => simp [intOf]; omega
          · obtain rfl : k = j := by omega
            have hsw2 : IntKind.i64.wrap ((kv.size : Int) - 1) = (kv.size : Int) - 1 := IntWalk.i64_in _ (by omega)
            have hcb2 := cutI_bd (n := a) (lo := 0) (hi := (kv.size : Int) - 1) (by omega)
            obtain ⟨o, ho⟩ : ∃ o : Nat, cutI a 0 ((kv.size : Int) - 1) = (o : Int) := ⟨(cutI a 0 ((kv.size : Int) - 1)).toNat, by omega⟩
            have hov : o < kv.size := by omega
            have HO := Lib.hid ho
            have hpl := HPl.out o hov
            have c0 := (hbW.cell (p := ⟨bA, oA + k * 2, none⟩) hbA).trans R0.out
            have c1 := (hbW.cell (p := ⟨bA, oA + k * 2 + 1, none⟩) hbA).trans R1.out
            obtain ⟨pl, hp⟩ : ∃ pl : Nat, H + 1 + (P k + (kk.size + 1 + o)) = pl := ⟨_, rfl⟩
            have hpS : pl < S.size := by have := HTl.out; omega
            obtain ⟨b, hb⟩ : ∃ b, (by_ S)[pl]? = some b := ⟨_, List.getElem?_eq_getElem (by rw [size_by]; exact hpS)⟩
            have hsp := HSp.out (P k + (kk.size + 1 + o)) b v (by rw [hp]; exact hb)
            rw [hp] at hsp
            have hw1 : IntKind.i64.wrap ((kk.size : Int) + 1) = (kk.size : Int) + 1 := IntWalk.i64_in _ (by omega)
            have hw2 : IntKind.i64.wrap ((kk.size : Int) + 1 + (o : Int)) = (kk.size : Int) + 1 + (o : Int) := IntWalk.i64_in _ (by omega)
            have hw3 : IntKind.i64.wrap (((H + 1 + P k : Nat) : Int) + ((kk.size : Int) + 1 + (o : Int))) = (pl : Int) := by rw [IntWalk.i64_in _ (by omega)]; omega
            obtain ⟨X, hX⟩ : ∃ X : Nat, H + 1 + P k = X := ⟨_, rfl⟩
            rw [hX] at hw3 ⊢
            have hcells := fun j b hj => ((bcell hbr).1 w2.heap.size j hgl).trans (HBc.out j b hj)
            have hgc := hcells pl b hb
            have hpl0 : (0 : Int) ≤ (pl : Int) := by omega
            have hplS : (pl : Int) < (S.size : Int) := by omega
            have hln : ((by_ S).set pl v).length = S.size := by rw [List.length_set, size_by]
            have hkb := fun (cap q' : Nat) => conv_back ((wr.drewN q').setCell ⟨w2.heap.size, pl, none⟩ (.int .u8 (v.toNat : Int))) w2.heap.size cap ((by_ S).set pl v) (changed_cells (W := wr.drewN q') (by rw [size_by]; exact hpS) hcells v)
            rw [hln] at hkb
            have hfr : wr.frozen? ⟨w2.heap.size, pl, none⟩ = false := by
              rw [(bcell hbr).2 w2.heap.size pl hgl, ← HW3.out]
              unfold World.frozen?
              have hat := bytesWorld_at_new w2 5 S
              have hcs : S.size ≤ (bytesCells w2 5 S).size := by
                unfold bytesCells
                rw [Array.size_append, Array.size_map]
                exact Nat.le_add_right _ _
              simp [hat]
              omega
            have HRd := Lib.hid (fun W hW => Read_any (mkB ((by_ S).set pl v)) W (by rw [size_mkB, hln]; omega) hW)
            have her := fun h => read_err (s := mkB ((by_ S).set pl v)) h
            have hbS : S[pl] = b := by
              have := (List.getElem?_eq_some_iff.1 hb).2
              exact this
            have HbW2 := Lib.hid hbW
            have hb9 : ∀ q', Below w.heap.size w ((wr.drewN q').setCell ⟨w2.heap.size, pl, none⟩ (.int .u8 (v.toNat : Int))) := fun q' => (below_drewN hbW q').setCell (p := ⟨w2.heap.size, pl, none⟩) B2.size _
            have HB9 := Lib.hid hb9
            obtain ⟨Z, hZ⟩ : ∃ Z, mkB ((by_ S).set pl v) = Z := ⟨_, rfl⟩
            rw [hZ] at hsp HRd her hkb
            clear hp hb hcb2 ho hpl hZ hcells hln hX hb9 hbW
            go_wp2_with fail
            go_quiet ((go_at_call 17; exact Calls.quiet_of_same ((Cut_any _ _ _ _ (by omega) (by omega) (by omega)).mono fun _ _ h => ⟨h.1.trans (by rw [HO.out]), h.2.symm⟩)))
            by_cases hvb : v = b
            · have hr := hsp.1 hvb
              rw [hr] at HRd
              have HVB := Lib.hid hvb
              have t1 : ((v.toNat : Int) == (b.toNat : Int)) = true := by simp [hvb]
              have t2 : ((v.toNat : Int) != (b.toNat : Int)) = false := by simp [hvb]
              clear hsp her hr hvb
              go_wp2_with (go_at_call 15; go_loud (refine (HRd.out _ (HV.out.below (HB9.out _))).mono ?_; rintro e w9 ⟨A9, c9, rfl, _, hb9⟩))
              go_ret
              exact ⟨rfl, bstep (HB9.out _) hb9⟩
            · have hr := hsp.2 hvb
              have hr2 := her hr
              obtain ⟨G, hG⟩ : ∃ G, readL Z = G := ⟨_, rfl⟩
              rw [hG] at hr hr2 HRd
              obtain ⟨LG, cG⟩ := G
              simp only at hr hr2 HRd
              subst hr2
              have hne : ¬ v.toNat = b.toNat := fun e => hvb (UInt8.toNat_inj.1 e)
              have t1 : ((v.toNat : Int) == (b.toNat : Int)) = false := by rw [beq_eq_false_iff_ne]; omega
              have t2 : ((v.toNat : Int) != (b.toNat : Int)) = true := by simp; omega
              have g1 : (cG != 0) = true := by simpa using hr
              have g2 : (cG == 0) = false := by simpa using hr
              clear hsp her hvb hG hr hne
              go_wp2_with (go_at_call 15; go_loud (refine (HRd.out _ (HV.out.below (HB9.out _))).mono ?_; rintro e w9 ⟨A9, c9, rfl, _, hb9⟩))
              go_ret
              exact ⟨rfl, bstep (HB9.out _) hb9⟩
  · obtain ⟨ce, hce⟩ : ∃ ce, checkL l = ce := ⟨_, rfl⟩
    rw [hce] at hck HT
    have hcx : (ce != 0) = true := by simpa using hck
    clear hck hce
    go_enter Tryd.func6, Tryd.ntmps6
    go_wp2_with (first
      | (go_at_call 9; go_loud (refine HFa.out.mono ?_; rintro e w1 ⟨rfl, hb1⟩))
      | (go_at_call 14; go_loud (refine (HT.out _ hb1).mono ?_; rintro e w2 ⟨rfl, hb2⟩)))
    go_ret
    exact ⟨rfl, bstep hb1 hb2⟩
end Go.Proofs.YtojnojjiblcmcaaDoor
