/- Package snapshot: Read. -/
import Derived.Test.YtojnojjiblcmcaaDoorR2
import Derived.Test.YtojnojjiblcmcaaDoorShR
import Derived.Test.YtojnojjiblcmcaaDoorMore
namespace Go.Proofs.YtojnojjiblcmcaaDoor
open Go.RowKit
open Go.Lib hiding intOf

def nl : ByteArray := ⟨#[10]⟩
/-- What Text and Read read of the memory. -/
structure EnvS (w : World) : Prop where
  tab : w.cell? ⟨3, 15, none⟩ = some (.int .u8 4)
  big : 3 < w.heap.size
  most : ∃ m, w.cell? ⟨0, 0, none⟩ = some (.int .i64 m)
theorem EnvS.below {w w' : World} (h : EnvS w) (hb : Below w.heap.size w w') : EnvS w' := by
  obtain ⟨h1, h2, m, h3⟩ := h
  exact ⟨(hb.cell (p := ⟨3, 15, none⟩) h2).trans h1, Nat.lt_of_lt_of_le h2 hb.size, m, (hb.cell (p := ⟨0, 0, none⟩) (by show 0 < w.heap.size; omega)).trans h3⟩

theorem Suffix_any (s : ByteArray) (w : World) (hs : s.size ≤ 9223372036854775807) : Calls Tryd.prog 32 #[.string s, .string nl] w fun e w' => e = .returned (.bool (hasSuffix (by_ s) [10])) ∧ w = w' :=
  (Any.strings_HasSuffix Tryd.lays100 s nl w hs).mono fun _ _ h => ⟨h.1, h.2.symm⟩
theorem Trim_any (s : ByteArray) (w : World) (hs : s.size ≤ 9223372036854775807) : Calls Tryd.prog 34 #[.string s, .string nl] w fun e w' => e = .returned (.string (mkB (trimSuffix (by_ s) [10]))) ∧ w = w' :=
  (Any.strings_TrimSuffix Tryd.lays102 s nl w hs).mono fun _ _ h => ⟨h.1, h.2.symm⟩
theorem CutE_any (s : ByteArray) (w : World) (hs : s.size ≤ 100000) (he : EnvS w) :
    Calls Tryd.prog 35 #[.string s, .string ⟨#[61]⟩] w fun e w' => e = .returned (.tuple #[.string (mkB (cutE (by_ s)).1), .string (mkB (cutE (by_ s)).2.1), .bool (cutE (by_ s)).2.2]) ∧ Below w.heap.size w w' := by
  obtain ⟨m, hm⟩ := he.most
  refine (Any.strings_Cut Tryd.lays145 s ⟨#[61]⟩ m w (by omega) hm).mono ?_
  rintro e w' ⟨rfl, n, rfl⟩
  exact ⟨rfl, below_drewN (Below.refl _ _) n⟩

/-- The lines. -/
def linesS (s : ByteArray) : List ByteArray := splitB nl 0 (countB s nl) s
theorem linesS_by (s : ByteArray) : (linesS s).map by_ = splitK [10] 0 (count (by_ s) [10]) (by_ s) := splitB_data nl 0 _ s
theorem splitK_le : ∀ (k : Nat) (s : B8), ∀ x ∈ splitK [10] 0 k s, x.length ≤ s.length
  | 0, s, x, h => by
    have : x = s := by simpa [splitK] using h
    rw [this]; exact Nat.le_refl _
  | k + 1, s, x, h => by
    unfold splitK at h
    split at h
    · have : x = s := by simpa using h
      rw [this]; exact Nat.le_refl _
    · rcases List.mem_cons.1 h with rfl | h
      · rw [List.length_take]; omega
      · have := splitK_le k _ x h
        rw [List.length_drop] at this; omega
theorem linesS_size {s x : ByteArray} (h : x ∈ linesS s) : x.size ≤ s.size := by
  have h1 : by_ x ∈ splitK [10] 0 (count (by_ s) [10]) (by_ s) := by rw [← linesS_by]; exact List.mem_map.2 ⟨x, h, rfl⟩
  have := splitK_le _ _ _ h1
  rw [size_by, size_by] at this
  exact this

theorem Split_any (s : ByteArray) (w : World) (hs : s.size ≤ 100000) (he : EnvS w) :
    Calls Tryd.prog 33 #[.string s, .string nl] w fun e w' => e = .returned (.slice (some ⟨w.heap.size, 0, none⟩) (linesS s).length (linesS s).length) ∧ w' = w.alloc (.cells ((linesS s).map Value.string).toArray 9) := by
  obtain ⟨m, hm⟩ := he.most
  have hl : (linesS s).length = countB s nl + 1 := splitB_all nl (by decide) 0 _ s rfl
  rw [hl]
  exact Any.strings_Split Tryd.lays146 (by kernel_rfl) s nl m w (by omega) hm (by decide)

theorem cutE_le (s : B8) : (cutE s).1.length ≤ s.length ∧ (cutE s).2.1.length ≤ s.length := by
  unfold cutE cut
  split
  · simp only [List.length_take, List.length_drop]; omega
  · simp only [List.length_nil]; omega
theorem linesS_len (s : ByteArray) : (linesS s).length ≤ s.size + 1 := by
  have hl : (linesS s).length = countB s nl + 1 := splitB_all nl (by decide) 0 _ s rfl
  have := countB_le nl (by decide) s.size s (Nat.le_refl _)
  omega

def rowC (x : ByteArray) : Rw := (mkB (cutE (by_ x)).1, mkB (cutE (by_ x)).2.1)
theorem rowsL_cons (x : B8) (r : List B8) : rowsL (x :: r) = if (cutE x).2.2 = true then (rowsL r).map ((mkB (cutE x).1, mkB (cutE x).2.1) :: ·) else none := rfl

theorem rw_info : (Tryd.prog.info? 39).map (fun i => (i.zero, i.size, i.bytes)) = some (some (.agg #[.string ByteArray.empty, .string ByteArray.empty]), 2, 32) := by kernel_rfl

set_option maxRecDepth 100000 in
set_option maxHeartbeats 4000000 in
theorem Read_any (s : ByteArray) (w : World) (hs : s.size ≤ 9223372036854775807) (he : EnvS w) :
    Calls Tryd.prog 15 #[.string s] w (StateP (readL s).1 (readL s).2 w) := by
  have HV := Lib.hid he
  have HSu := Lib.hid (fun W => Suffix_any s W hs)
  have HTr := Lib.hid (fun W => Trim_any s W hs)
  clear he
  obtain ⟨R, hR⟩ : ∃ R, readL s = R := ⟨_, rfl⟩
  rw [hR]
  unfold readL at hR
  by_cases h1 : 8192 < s.size
  · rw [if_pos h1] at hR
    have HR := Lib.hid hR.symm
    have b1 : decide ((8192 : Int) < (s.size : Int)) = true := by simp; omega
    clear h1 hR
    go_enter Tryd.func15, Tryd.ntmps15
    go_wp2_with fail
    go_ret2
    rw [HR.out]
    exact StateP_nil rfl rfl (Below.refl _ _)
  · rw [if_neg h1] at hR
    have b1 : decide ((8192 : Int) < (s.size : Int)) = false := by simp; omega
    by_cases h2 : hasSuffix (by_ s) [10] = false
    · rw [if_pos h2] at hR
      have HR := Lib.hid hR.symm
      rw [h2] at HSu
      unfold nl at HSu
      clear h1 hR h2
      go_enter Tryd.func15, Tryd.ntmps15
      go_wp2_with (go_at_call 32; go_loud (refine (HSu.out _).mono ?_; rintro e w1 ⟨rfl, rfl⟩))
      go_ret2
      rw [HR.out]
      exact StateP_nil rfl rfl (Below.refl _ _)
    · rw [if_neg h2] at hR
      have h2' : hasSuffix (by_ s) [10] = true := by simpa using h2
      rw [h2'] at HSu
      obtain ⟨T, hT⟩ : ∃ T, mkB (trimSuffix (by_ s) [10]) = T := ⟨_, rfl⟩
      have hbT : trimSuffix (by_ s) [10] = by_ T := by rw [← hT, by_mkB]
      have hTs : T.size ≤ s.size := by
        rw [← hT, size_mkB]
        unfold trimSuffix
        rw [h2', if_pos rfl, List.length_take, size_by]
        omega
      rw [hT] at HTr
      rw [hbT, ← linesS_by] at hR
      have HSp := Lib.hid (fun W hW => Split_any T W (by omega) hW)
      have hLl := linesS_len T
      have HPs := Lib.hid (fun x (hx : x ∈ linesS T) => Nat.le_trans (linesS_size hx) hTs)
      obtain ⟨LB, hLB⟩ : ∃ LB, linesS T = LB := ⟨_, rfl⟩
      rw [hLB] at HSp hR hLl HPs
      have HR := Lib.hid hR.symm
      have hLb : LB.length ≤ 8193 := by omega
      unfold nl at HSu HTr HSp
      obtain ⟨i0, J0, J1, J2, J3⟩ := info_parts rw_info
      clear h2 h2' hT hbT hTs hLB hR hLl
      go_enter Tryd.func15, Tryd.ntmps15
      go_wp2_with (first
        | (go_at_call 32; go_loud (refine (HSu.out _).mono ?_; rintro e w1 ⟨rfl, rfl⟩))
        | (go_at_call 34; go_loud (refine (HTr.out _).mono ?_; rintro e w1 ⟨rfl, rfl⟩))
        | (go_at_call 33; go_loud (refine (HSp.out _ HV.out).mono ?_; rintro e w1 ⟨rfl, hw1⟩; have HW1 := Lib.hid hw1; clear hw1)))
      have hw1 := HW1.out
      have hb1 : Below w.heap.size w w1 := by rw [hw1]; exact (Below.refl _ _).alloc (Nat.le_refl _) _
      have hcl : ∀ i x, LB[i]? = some x → w1.cell? ⟨w.heap.size, i, none⟩ = some (.string x) := fun i x hx => by
        rw [hw1]
        exact cell_of_row _ _ i _ _ _ (heap_alloc_new w _) ▸ (by simp [hx])
      have hlt1 : w.heap.size < w1.heap.size := by rw [hw1]; simp
      have HB1 := Lib.hid hb1
      have HCl := Lib.hid hcl
      clear hw1 hb1 hcl
      go_loopw [4, 5, 6, 7, 8, 9, 22] (fun t4 _ _ _ _ _ i wr => ∃ (j q : Nat) (ol : List Rw) (Ao : Option Addr) (co : Nat), j ≤ LB.length ∧ i = .int .i64 (j : Int) ∧ t4 = .slice Ao q co ∧ q ≤ j ∧ Hid (ol.length = q) ∧ Hid (wr.ownsRow w1.heap.size 39 2 (.slice Ao q co) q (rws ol)) ∧ Hid (rowsL ((LB.map by_).drop 1) = (rowsL ((LB.map by_).drop (max j 1))).map (ol ++ ·)) ∧ Hid (∀ x ∈ ol, x.1.size ≤ 8192 ∧ x.2.size ≤ 8192) ∧ Below w1.heap.size w1 wr) (fun _ _ _ _ _ _ i _ => LB.length - (intOf i).toNat)
      case atStart => exact ⟨0, 0, [], none, 0, by omega, rfl, rfl, by omega, Lib.hid rfl, Lib.hid (World.ownsRow_nil _ _ _ _), Lib.hid (by simp), Lib.hid (fun x hx => absurd hx List.not_mem_nil), Below.refl _ _⟩
      case round =>
        obtain ⟨j, q, ol, Ao, co, hj, rfl, rfl, hq, HQ, HOW, HRe, HZ, hbr⟩ := hrel
        have hj0 : (0 : Int) ≤ (j : Int) := by omega
        by_cases hlt : j < LB.length
        · have hjn : (j : Int) < (LB.length : Int) := by omega
          obtain ⟨x, hx⟩ : ∃ x, LB[j]? = some x := ⟨LB[j], List.getElem?_eq_getElem hlt⟩
          have hc := (hbr.cell (p := ⟨w.heap.size, j, none⟩) hlt1).trans (HCl.out j x hx)
          have HX := Lib.hid hx
          have hxs := HPs.out x (List.mem_of_getElem? hx)
          clear hx
          by_cases hz : j = 0
          · have d0 : ((j : Int) == 0) = true := by simp [hz]
            have d1 : decide ((j : Int) = 0) = true := by simp [hz]
            have HZ0 := Lib.hid hz
            clear hz
            go_wp2_with fail
            go_roundw
            case rel => exact ⟨j + 1, q, ol, Ao, co, by omega, by go_num, rfl, by omega, HQ, HOW, Lib.hid (by rw [show max (j + 1) 1 = max j 1 by have := HZ0.out; omega]; exact HRe.out), HZ, hbr⟩
            case measure => simp [intOf]; omega
          · have d0 : ((j : Int) == 0) = false := by simp [hz]
            have hdr : (LB.map by_).drop (max j 1) = by_ x :: (LB.map by_).drop (max (j + 1) 1) := by
              rw [show max j 1 = j by omega, show max (j + 1) 1 = j + 1 by omega]
              have hl : j < (LB.map by_).length := by rw [List.length_map]; exact hlt
              rw [List.drop_eq_getElem_cons hl]
              congr 1
              rw [List.getElem_map]
              exact congrArg by_ (Option.some.inj ((List.getElem?_eq_getElem hlt).symm.trans HX.out))
            have HRe2 := Lib.hid (show rowsL ((LB.map by_).drop 1) = (rowsL (by_ x :: (LB.map by_).drop (max (j + 1) 1))).map (ol ++ ·) by rw [← hdr]; exact HRe.out)
            have hcl := cutE_le (by_ x)
            rw [size_by] at hcl
            have hcu := fun W hW => CutE_any x W (by omega) hW
            obtain ⟨⟨kp, vp, ok⟩, hcc⟩ : ∃ r, cutE (by_ x) = r := ⟨_, rfl⟩
            simp only [hcc] at hcu hcl
            have HCc := Lib.hid hcc
            have HCu := Lib.hid hcu
            have hks : (mkB kp).size ≤ 8192 := by rw [size_mkB]; omega
            have hvs : (mkB vp).size ≤ 8192 := by rw [size_mkB]; omega
            have HBr := Lib.hid (HB1.out.trans (hbr.mono HB1.out.size))
            clear hz hdr hcc hcu hcl HRe hxs
            cases ok with
            | true =>
              have HRe3 := Lib.hid (show rowsL ((LB.map by_).drop 1) = (rowsL ((LB.map by_).drop (max (j + 1) 1))).map ((ol ++ [(mkB kp, mkB vp)]) ++ ·) by
                rw [HRe2.out, rowsL_cons, HCc.out, if_pos rfl]
                cases rowsL ((LB.map by_).drop (max (j + 1) 1)) <;> simp)
              obtain ⟨K, hK⟩ : ∃ K, mkB kp = K := ⟨_, rfl⟩
              obtain ⟨V, hV⟩ : ∃ V, mkB vp = V := ⟨_, rfl⟩
              rw [hK, hV] at HCu HRe3
              rw [hK] at hks
              rw [hV] at hvs
              have HZ2 := Lib.hid (show ∀ y ∈ ol ++ [(K, V)], y.1.size ≤ 8192 ∧ y.2.size ≤ 8192 from fun y hy => by
                rcases List.mem_append.1 hy with hy | hy
                · exact HZ.out y hy
                · have : y = (K, V) := by simpa using hy
                  subst this
                  exact ⟨hks, hvs⟩)
              have HRow := Lib.hid (show rws ol ++ (#[Value.string K, .string V] : Array Value).toList = rws (ol ++ [(K, V)]) by rw [rws, rws, rowsV_snoc]; rfl)
              clear hK hV HRe2 HZ
              go_wp2_with (first
                | (go_at_call 35; go_loud (refine (HCu.out _ (HV.out.below HBr.out)).mono ?_; rintro e w5 ⟨rfl, hb5⟩; have hbr5 := hbr.trans (hb5.mono hbr.size); have HO5 := Lib.hid (own_below HOW.out hb5 (Nat.le_refl _))))
                | (at_builtin; go_loud (refine wpList_append_one w5 #[.string K, .string V] rfl (.tmp 37) (.tmp 41) 22 rfl w1.heap.size 39 i0 (.agg #[.string ByteArray.empty, .string ByteArray.empty]) 2 32 Tryd.underlying22 J0 J1 J2 J3 rfl (by decide) (.slice Ao q co) q _ rfl HO5.out rfl rfl (by simp [Value.oneCell']) (by omega) (by decide) hbr5.size ?_; intro g3 cap3 w6 hv6 hg6 hat6 hlt6)))
              have hv7 := hv6
              rw [HRow.out] at hv7
              have hb6 : Below w1.heap.size w1 w6 := below_app hbr5 hbr5.size HO5.out (Nat.le_refl _) hg6
              go_roundw
              case rel => exact ⟨j + 1, q + 1, ol ++ [(K, V)], some ⟨g3, 0, none⟩, cap3, by omega, by go_num, rfl, by omega, Lib.hid (by rw [List.length_append, HQ.out]; rfl), Lib.hid hv7, HRe3, HZ2, hb6⟩
              case measure => simp [intOf]; omega
            | false =>
              have HR2 := Lib.hid (show R = ([], 5) by
                rw [HR.out, HRe2.out, rowsL_cons, HCc.out, if_neg (show ¬ (kp, vp, false).2.2 = true from Bool.false_ne_true)]
                rfl)
              clear HRe2
              go_wp2_with (go_at_call 35; go_loud (refine (HCu.out _ (HV.out.below HBr.out)).mono ?_; rintro e w5 ⟨rfl, hb5⟩))
              go_ret2
              rw [HR2.out]
              exact StateP_nil rfl rfl (bstep HBr.out hb5)
        · obtain rfl : LB.length = j := by omega
          have hem : (LB.map by_).drop (max LB.length 1) = [] := List.drop_eq_nil_of_le (by rw [List.length_map]; omega)
          have HR2 := Lib.hid (show R = if checkL ol ≠ 0 then ([], checkL ol) else if textB ol ≠ s then ([], 13) else (ol, 0) by
            rw [HR.out, HRe.out, hem]
            simp only [rowsL, Option.map_some, List.append_nil])
          have HBr := Lib.hid (HB1.out.trans (hbr.mono HB1.out.size))
          have hE := HV.out.below HBr.out
          have HTx := Lib.hid (Text_any Ao q co ol _ (Sl_rows rwV_len HOW.out HQ.out (by decide)) HQ.out (fun x hx => by have := HZ.out x hx; unfold maxLen; omega) (by unfold maxLen; omega) hE.tab hE.big)
          clear hem hE HRe
          by_cases hc : checkL ol = 0
          · have HC := Lib.hid hc
            have htl : textL ol = textB ol := by unfold textL; rw [if_pos hc]
            unfold TextP at HTx
            rw [htl, hc] at HTx
            obtain ⟨U, hU⟩ : ∃ U, textB ol = U := ⟨_, rfl⟩
            rw [hU] at HTx HR2
            by_cases hus : U = s
            · have HR3 := Lib.hid (show R = (ol, 0) by rw [HR2.out, if_neg (by simpa using hc), if_neg (by simpa using hus)])
              have e1 : (U.toList == s.toList) = true := by rw [hus]; simp
              have e2 : (U.toList != s.toList) = false := by rw [hus]; simp
              have e3 : U.toList = s.toList := by rw [hus]
              have HU := Lib.hid hus
              have HFi := Lib.hid (fine_of HC.out)
              clear hc htl hU hus HR2
              go_wp2_with (go_at_call 14; go_loud (refine HTx.out.mono ?_; rintro e w5 ⟨rfl, hb5⟩))
              go_ret2
              rw [HR3.out]
              have hq := HQ.out
              subst hq
              exact ⟨Ao, co, rfl, own_mono (own_below HOW.out hb5 (Nat.le_refl _)) HB1.out.size, bstep HBr.out hb5⟩
            · have HR3 := Lib.hid (show R = ([], 13) by rw [HR2.out, if_neg (by simpa using hc), if_pos hus])
              have hne : ¬ U.toList = s.toList := fun e => hus (ba_ext e)
              have e1 : (U.toList == s.toList) = false := by simpa using hne
              have e2 : (U.toList != s.toList) = true := by simpa using hne
              clear hc htl hU hus HR2
              go_wp2_with (go_at_call 14; go_loud (refine HTx.out.mono ?_; rintro e w5 ⟨rfl, hb5⟩))
              go_ret2
              rw [HR3.out]
              exact StateP_nil rfl rfl (bstep HBr.out hb5)
          · have HR3 := Lib.hid (show R = ([], checkL ol) by rw [HR2.out, if_pos hc])
            unfold TextP at HTx
            obtain ⟨ce, hce⟩ : ∃ ce, checkL ol = ce := ⟨_, rfl⟩
            rw [hce] at HTx HR3 hc
            have hcb : (ce != 0) = true := by simpa using hc
            clear hc hce HR2
            go_wp2_with (go_at_call 14; go_loud (refine HTx.out.mono ?_; rintro e w5 ⟨rfl, hb5⟩))
            go_ret2
            rw [HR3.out]
            exact StateP_nil rfl rfl (bstep HBr.out hb5)
end Go.Proofs.YtojnojjiblcmcaaDoor
