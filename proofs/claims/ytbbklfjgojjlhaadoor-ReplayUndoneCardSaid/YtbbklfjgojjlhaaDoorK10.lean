/- The walk of ReplayUndone. -/
import Derived.Test.YtbbklfjgojjlhaaDoorK9
import Derived.Test.YtbbklfjgojjlhaaDoorQ2
namespace Go.Proofs.YtbbklfjgojjlhaaDoor
open Go.RowKit
open Go.Lib hiding intOf

def pairF (x y : Ent) (i : Nat) : Ent := if i = 0 then x else y
theorem entsF_pair (x y : Ent) : entsF (pairF x y) 0 2 = [x, y] := rfl

theorem Sl_pair (x y : Ent) (W : World) : Sl (W.alloc (.cells #[.int .i64 x.num, .int .i64 x.time, .string x.kind, .string x.text, .int .i64 y.num, .int .i64 y.time, .string y.kind, .string y.text] 36))
    (W.alloc (.cells #[.int .i64 x.num, .int .i64 x.time, .string x.kind, .string x.text, .int .i64 y.num, .int .i64 y.time, .string y.kind, .string y.text] 36)).heap.size 4 (some ⟨W.heap.size, 0, none⟩) 2 (fun i => rowE (pairF x y i)) := by
  have hnew := heap_alloc_new W (.cells #[.int .i64 x.num, .int .i64 x.time, .string x.kind, .string x.text, .int .i64 y.num, .int .i64 y.time, .string y.kind, .string y.text] 36)
  refine fun _ => ⟨W.heap.size, 0, rfl, (Array.getElem?_eq_some_iff.1 hnew).1, fun i hi j u hj => ?_⟩
  have hi2 : i = 0 ∨ i = 1 := by omega
  rcases hi2 with rfl | rfl
  · match j, hj with
    | 0, hj => have hj : some _ = some u := hj; cases hj; exact cell_of_row _ _ 0 _ _ _ hnew
    | 1, hj => have hj : some _ = some u := hj; cases hj; exact cell_of_row _ _ 1 _ _ _ hnew
    | 2, hj => have hj : some _ = some u := hj; cases hj; exact cell_of_row _ _ 2 _ _ _ hnew
    | 3, hj => have hj : some _ = some u := hj; cases hj; exact cell_of_row _ _ 3 _ _ _ hnew
  · match j, hj with
    | 0, hj => have hj : some _ = some u := hj; cases hj; exact cell_of_row _ _ 4 _ _ _ hnew
    | 1, hj => have hj : some _ = some u := hj; cases hj; exact cell_of_row _ _ 5 _ _ _ hnew
    | 2, hj => have hj : some _ = some u := hj; cases hj; exact cell_of_row _ _ 6 _ _ _ hnew
    | 3, hj => have hj : some _ = some u := hj; cases hj; exact cell_of_row _ _ 7 _ _ _ hnew

theorem Run_pair (A : Option Addr) (n c : Nat) (l : List Rw) (x y : Ent) (W : World) (h : StAt l A n W) (hx : Wf x) (hy : Wf y) (he : Env W) :
    Calls Tryd.prog 9 #[.slice A n c, .slice (some ⟨W.heap.size, 0, none⟩) 2 2] (W.alloc (.cells #[.int .i64 x.num, .int .i64 x.time, .string x.kind, .string x.text, .int .i64 y.num, .int .i64 y.time, .string y.kind, .string y.text] 36))
      fun e w' => ∃ A6 c6, e = .returned (.tuple #[.slice A6 (runF l [x, y]).1.length c6, .int .i64 ((runF l [x, y]).2.1 : Int), .int .i64 (runF l [x, y]).2.2]) ∧ Sl w' w'.heap.size 2 A6 (runF l [x, y]).1.length (fun i => rwV (runF l [x, y]).1[i]!) ∧ Below W.heap.size W w' := by
  have hb : Below W.heap.size W (W.alloc (.cells #[.int .i64 x.num, .int .i64 x.time, .string x.kind, .string x.text, .int .i64 y.num, .int .i64 y.time, .string y.kind, .string y.text] 36)) := (Below.refl _ _).alloc (Nat.le_refl _) _
  refine (Run_any A n c l (some ⟨W.heap.size, 0, none⟩) 2 2 (pairF x y) _ (h.below hb) (Sl_pair x y W) (by decide) (fun i hi => ?_) (he.below hb)).mono ?_
  · unfold pairF; split
    · exact hx
    · exact hy
  · rintro e w' ⟨A6, c6, rfl, ho, hb'⟩
    rw [entsF_pair] at ho ⊢
    exact ⟨A6, c6, rfl, Sl_rows rwV_len ho rfl (by decide), bstep hb hb'⟩

theorem wf_mk {n t : Int} {k x : ByteArray} (h1 : -9223372036854775808 ≤ n ∧ n ≤ 9223372036854775807) (h2 : -9223372036854775808 ≤ t ∧ t ≤ 9223372036854775807) (h3 : k.size ≤ maxLen) (h4 : x.size ≤ maxLen) : Wf ⟨n, t, k, x⟩ := ⟨h1, h2, h3, h4⟩

set_option maxRecDepth 100000 in
set_option maxHeartbeats 4000000 in
theorem Undone_walk (A : Option Addr) (n c : Nat) (l : List Rw) (key : ByteArray) (z : Int) (w : World) (h : StAt l A n w) (hk : key.size ≤ 140737488355328) (he : Env w) :
    Calls Tryd.prog 5 #[.slice A n c, .string key, .int .i64 z] w fun v w' => v = .returned (.bool true) ∧ Below w.heap.size w w' := by
  have hln := h.len
  subst hln
  have HG := Lib.hid (Get_any A l.length c l w h.sl rfl h.z h.le key)
  have HH := Lib.hid h
  have HV := Lib.hid he
  have hlm : l.length ≤ maxLen := h.le
  have HLm := Lib.hid hlm
  clear h he hlm
  by_cases hg : (getL l key).2 = 0
  · have HG0 := Lib.hid hg
    have hks : key.size ≤ 12 := by
      by_cases hc : checkL l = 0
      · have hf := fine_of hc
        rw [getL_fine hf] at hg
        cases hgk : getK key1 l key with
        | none => rw [hgk] at hg; cases hg
        | some x =>
          obtain ⟨hxl, hxk⟩ := (getK_some hf.sorted).1 hgk
          have := (fine_small hf x hxl).1
          rw [show x.1 = key from hxk] at this
          exact this
      · unfold getL at hg
        rw [if_pos hc] at hg
        exact absurd hg hc
    have hcb := cutI_bd (n := z) (lo := 1) (hi := 99) (by omega)
    obtain ⟨k, hkk⟩ : ∃ k : Nat, cutI z 1 99 = (k : Int) := ⟨(cutI z 1 99).toNat, by omega⟩
    have hk1 : 1 ≤ k := by omega
    have hk2 : k ≤ 99 := by omega
    have HK := Lib.hid hkk
    clear hkk hcb
    have HI := Lib.hid (fun W => Itoa_ref k W (by omega))
    have hds : (mk (decDigits k)).size ≤ 21 := by
      have := itoa_length_le (k : Int) (by omega) (by omega)
      rw [itoa_nonneg] at this
      rw [size_mk]; exact this
    obtain ⟨D, hD⟩ : ∃ D, mk (decDigits k) = D := ⟨_, rfl⟩
    rw [hD] at hds HI
    obtain ⟨K1, hK1⟩ : ∃ K1, key ++ ({ data := #[32] } : ByteArray) = K1 := ⟨_, rfl⟩
    obtain ⟨X, hX⟩ : ∃ X, K1 ++ D = X := ⟨_, rfl⟩
    obtain ⟨K2, hK2⟩ : ∃ K2, key ++ ({ data := #[32, 45] } : ByteArray) = K2 := ⟨_, rfl⟩
    obtain ⟨Y, hY⟩ : ∃ Y, K2 ++ D = Y := ⟨_, rfl⟩
    have hbX : bl X = bl key ++ 32 :: decDigits k := by
      rw [← hX, ← hK1, ← hD, bl_append, bl_append, bl_mk, List.append_assoc]; rfl
    have hbY : bl Y = bl key ++ 32 :: 45 :: decDigits k := by
      rw [← hY, ← hK2, ← hD, bl_append, bl_append, bl_mk, List.append_assoc]; rfl
    have s1 : K1.size ≤ 13 := by rw [← hK1, ByteArray.size_append]; show key.size + 1 ≤ 13; omega
    have s2 : K2.size ≤ 14 := by rw [← hK2, ByteArray.size_append]; show key.size + 2 ≤ 14; omega
    have s3 : X.size ≤ 40 := by rw [← hX, ByteArray.size_append]; omega
    have s4 : Y.size ≤ 40 := by rw [← hY, ByteArray.size_append]; omega
    have HU := Lib.hid (fun h => undoneA l key X Y k hg hbX hbY hk1 h)
    have HU2 := Lib.hid (fun h => runF_err (l := l) (es := [⟨1, 0, kGrow, X⟩, ⟨2, 0, kGrow, Y⟩]) h)
    have HR := Lib.hid (fun W (hW : Below w.heap.size w W) => Run_pair A l.length c l ⟨1, 0, kGrow, X⟩ ⟨2, 0, kGrow, Y⟩ W (HH.out.below hW) (wf_mk (by decide) (by decide) (by decide) (by unfold maxLen; omega)) (wf_mk (by decide) (by decide) (by decide) (by unfold maxLen; omega)) (HV.out.below hW))
    unfold kGrow at HR HU HU2
    obtain ⟨R, hR⟩ : ∃ R, runF l [⟨1, 0, ⟨#[103, 114, 111, 119]⟩, X⟩, ⟨2, 0, ⟨#[103, 114, 111, 119]⟩, Y⟩] = R := ⟨_, rfl⟩
    simp only [hR] at HR HU HU2
    obtain ⟨LR, iR, cR⟩ := R
    simp only at HR HU HU2
    clear hR hbX hbY hD hg hk
    by_cases hc0 : cR = 0
    · obtain rfl : LR = l := HU.out hc0
      subst hc0
      clear HU HU2
      go_enter Tryd.func5, Tryd.ntmps5
      go_wp2_with (first
        | (go_at_call 14; go_loud (refine HG.out.mono ?_; rintro e w1 ⟨rfl, hb1⟩; rw [HG0.out]))
        | (go_at_call 8; go_loud (refine (Cut_any _ _ _ _ (by omega) (by omega) (by omega)).mono ?_; rintro e w2 ⟨rfl, rfl⟩; rw [HK.out]))
        | (go_at_call 13; go_loud (refine (HI.out _).mono ?_; rintro e w3 ⟨rfl, rfl⟩))
        | (go_at_call 9; go_loud (refine (HR.out _ hb1).mono ?_; rintro e w4 ⟨A6, c6, rfl, hs6, hb4⟩; have B4 := bstep hb1 hb4; have HS6 := Lib.hid hs6; clear hs6))
        | (go_at_call 10; go_loud (refine (fact_any _ (HV.out.below B4)).mono ?_; rintro e w5 ⟨rfl, hb5⟩; have B5 := bstep B4 hb5))
        | (go_at_call 11; go_loud (refine (Same_any A A6 LR.length c c6 w5.heap.size LR _ ((HH.out.sl.below B5).more B5.size) ((HS6.out.below hb5).more hb5.size) HLm.out).mono ?_; rintro e w6 ⟨rfl, hb6⟩)))
      go_ret
      exact ⟨rfl, bstep B5 hb6⟩
    · obtain rfl : LR = [] := HU2.out hc0
      have hcb2 : (cR != 0) = true := by simpa using hc0
      have hcb3 : (cR == 0) = false := by simpa using hc0
      clear HU HU2 hc0
      go_enter Tryd.func5, Tryd.ntmps5
      go_wp2_with (first
        | (go_at_call 14; go_loud (refine HG.out.mono ?_; rintro e w1 ⟨rfl, hb1⟩; rw [HG0.out]))
        | (go_at_call 8; go_loud (refine (Cut_any _ _ _ _ (by omega) (by omega) (by omega)).mono ?_; rintro e w2 ⟨rfl, rfl⟩; rw [HK.out]))
        | (go_at_call 13; go_loud (refine (HI.out _).mono ?_; rintro e w3 ⟨rfl, rfl⟩))
        | (go_at_call 9; go_loud (refine (HR.out _ hb1).mono ?_; rintro e w4 ⟨A6, c6, rfl, hs6, hb4⟩; have B4 := bstep hb1 hb4; clear hs6))
        | (go_at_call 10; go_loud (refine (fact_any _ (HV.out.below B4)).mono ?_; rintro e w5 ⟨rfl, hb5⟩; have B5 := bstep B4 hb5)))
      go_ret
      exact ⟨rfl, B5⟩
  · obtain ⟨gc, hgc⟩ : ∃ gc, (getL l key).2 = gc := ⟨_, rfl⟩
    have hgb : (gc == 0) = false := by rw [← hgc]; simpa using hg
    have HGC := Lib.hid hgc
    obtain ⟨X, hX⟩ : ∃ X, key ++ ({ data := #[32, 120] } : ByteArray) = X := ⟨_, rfl⟩
    have hbX : bl X = bl key ++ [32, 120] := by rw [← hX, bl_append]
    have s3 : X.size ≤ 140737488355330 := by rw [← hX, ByteArray.size_append]; show key.size + 2 ≤ _; omega
    have HU := Lib.hid (fun h => undoneB l key X hg hbX h)
    have HU2 := Lib.hid (fun h => runF_err (l := l) (es := [⟨7, 0, kSet, X⟩, ⟨8, 0, kCut, key⟩]) h)
    have HR := Lib.hid (fun W (hW : Below w.heap.size w W) => Run_pair A l.length c l ⟨7, 0, kSet, X⟩ ⟨8, 0, kCut, key⟩ W (HH.out.below hW) (wf_mk (by decide) (by decide) (by decide) (by unfold maxLen; omega)) (wf_mk (by decide) (by decide) (by decide) (by unfold maxLen; omega)) (HV.out.below hW))
    unfold kSet kCut at HR HU HU2
    obtain ⟨R, hR⟩ : ∃ R, runF l [⟨7, 0, ⟨#[115, 101, 116]⟩, X⟩, ⟨8, 0, ⟨#[99, 117, 116]⟩, key⟩] = R := ⟨_, rfl⟩
    simp only [hR] at HR HU HU2
    obtain ⟨LR, iR, cR⟩ := R
    simp only at HR HU HU2
    clear hR hbX hg hgc
    by_cases hc0 : cR = 0
    · obtain rfl : LR = l := HU.out hc0
      subst hc0
      clear HU HU2
      go_enter Tryd.func5, Tryd.ntmps5
      go_wp2_with (first
        | (go_at_call 14; go_loud (refine HG.out.mono ?_; rintro e w1 ⟨rfl, hb1⟩; rw [HGC.out]))
        | (go_at_call 9; go_loud (refine (HR.out _ hb1).mono ?_; rintro e w4 ⟨A6, c6, rfl, hs6, hb4⟩; have B4 := bstep hb1 hb4; have HS6 := Lib.hid hs6; clear hs6))
        | (go_at_call 10; go_loud (refine (fact_any _ (HV.out.below B4)).mono ?_; rintro e w5 ⟨rfl, hb5⟩; have B5 := bstep B4 hb5))
        | (go_at_call 11; go_loud (refine (Same_any A A6 LR.length c c6 w5.heap.size LR _ ((HH.out.sl.below B5).more B5.size) ((HS6.out.below hb5).more hb5.size) HLm.out).mono ?_; rintro e w6 ⟨rfl, hb6⟩)))
      go_ret
      exact ⟨rfl, bstep B5 hb6⟩
    · obtain rfl : LR = [] := HU2.out hc0
      have hcb2 : (cR != 0) = true := by simpa using hc0
      have hcb3 : (cR == 0) = false := by simpa using hc0
      clear HU HU2 hc0
      go_enter Tryd.func5, Tryd.ntmps5
      go_wp2_with (first
        | (go_at_call 14; go_loud (refine HG.out.mono ?_; rintro e w1 ⟨rfl, hb1⟩; rw [HGC.out]))
        | (go_at_call 9; go_loud (refine (HR.out _ hb1).mono ?_; rintro e w4 ⟨A6, c6, rfl, hs6, hb4⟩; have B4 := bstep hb1 hb4; clear hs6))
        | (go_at_call 10; go_loud (refine (fact_any _ (HV.out.below B4)).mono ?_; rintro e w5 ⟨rfl, hb5⟩; have B5 := bstep B4 hb5)))
      go_ret
      exact ⟨rfl, B5⟩
end Go.Proofs.YtbbklfjgojjlhaaDoor
