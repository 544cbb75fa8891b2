/- The walk of RecordTorn. -/
import Derived.Test.YtahdjndpefclkaaDoorP4
import Derived.Test.YtahdjndpefclkaaDoorL6
import Derived.Deep.RegionHeld3
import Derived.Deep.Cut
namespace Go.Proofs.YtahdjndpefclkaaDoor
open Go.RowKit
open Go.Lib hiding intOf

/-- Entries(1): all entries. -/
theorem Entries_all {g c : Nat} {A : Option Addr} {l : List Ent} {w : World} (h : LogA g A c l w) (hl : l.length ≤ 1000) :
    Calls Tryd.prog 18 #[.pointer (some ⟨g, 0, none⟩), .int .i64 1] w fun y w' => ∃ A c, y = .returned (.slice A l.length c) ∧ l.length ≤ c ∧ c ≤ maxLen ∧ (A = none → l.length = 0 ∧ c = 0) ∧ Sl w' w'.heap.size 4 A l.length (fun k => rowE ((l[k]?).getD zeroE)) ∧ Below w.heap.size w w' := by
  have h1 := Entries_any h 0 0 (by omega) (by omega) hl
  rw [List.drop_zero] at h1
  refine h1.mono ?_
  rintro y w' ⟨A, c, rfl, hown, hb⟩
  have hcap := own_cap hown
  exact ⟨A, c, rfl, hcap.1, hcap.2, own_nil hown, own_sl hown, hb⟩

set_option maxRecDepth 100000 in
set_option maxHeartbeats 4000000 in
theorem Torn_walk (A : Option Addr) (n c : Nat) (f : Nat → Ent) (z : Int) (w : World) (hA : Sl w w.heap.size 4 A n (fun i => rowE (f i))) (hf : ∀ i, i < n → Wf (f i)) (hc : n ≤ c) (hcm : c ≤ maxLen) (hnil : A = none → n = 0 ∧ c = 0) (he : Env w) :
    Calls Tryd.prog 7 #[.slice A n c, .int .i64 z] w fun y w' => y = .returned (.bool true) ∧ Below w.heap.size w w' := by
  have HLo := Lib.hid (logOf_any A n c (min n 12) f w hA hf hc hcm hnil rfl)
  have HE := Lib.hid he
  have HFa := Lib.hid (fun W (hW : Env W) => fact_any W hW)
  clear hA hf hnil he
  go_enter Tryd.func7, Tryd.ntmps7
  go_wp2_with fail
  refine HLo.out.mono ?_
  rintro e w1 ⟨L, rfl, ⟨A1, c1, hL1⟩, hok, hl12, hb1⟩
  have HL1 := Lib.hid hL1
  have HOk := Lib.hid hok
  go_wp2_with fail
  refine (HFa.out _ (HE.out.below hb1)).mono ?_
  rintro e w2 ⟨rfl, hb2⟩
  have B2 := bstep hb1 hb2
  have HL2 := Lib.hid (HL1.out.below hb2)
  have HBy := Lib.hid (Bytes_any HL2.out (fun i e h => (HOk.out.1 i e h).2) (by omega) (HE.out.below B2))
  have hlS := encs_len (l := L) (fun i e h => (HOk.out.1 i e h).2)
  obtain ⟨S, hS⟩ : ∃ S, mk (encs L) = S := ⟨_, rfl⟩
  have hSb : bl S = encs L := by rw [← hS, bl_mk]
  have hSz : S.size = (encs L).length := by rw [← hS, size_mk]
  rw [hS] at HBy
  have HSb := Lib.hid hSb
  have HSz := Lib.hid hSz
  have hS2 : S.size ≤ 1920 := by omega
  clear hb2 hL1 hok hb1 hS hSb hSz hlS
  go_wp2_with fail
  refine HBy.out.mono ?_
  rintro e w3 ⟨rfl, hb3⟩
  have B3 := bstep B2 hb3
  have HL3 := Lib.hid (HL2.out.below hb3)
  have hcb := cutI_bd (n := z) (lo := 0) (hi := (S.size : Int)) (by omega)
  obtain ⟨p, hp⟩ : ∃ p : Nat, cutI z 0 (S.size : Int) = (p : Int) := ⟨(cutI z 0 (S.size : Int)).toNat, by omega⟩
  have hps : p ≤ S.size := by omega
  have HP := Lib.hid hp
  clear hb3 hcb hp
  go_wp2_with fail
  refine (Cut_any _ _ _ _ (by omega) (by omega) (by omega)).mono ?_
  rintro e w3' ⟨rfl, rfl⟩
  rw [HP.out]
  have hsl := fun W => slice_str S p hps (by unfold maxLen; omega) W
  rw [HSb.out] at hsl
  have HRe := Lib.hid (Recover_any (mk ((encs L).take p)) w3 (by rw [size_mk, List.length_take]; omega) (HE.out.below B3))
  go_wp2_with fail
  refine HRe.out.mono ?_
  rintro e w4 ⟨l, rest, rfl, ⟨A2, c2, hL4⟩, hok4, hsr, hst, hb4⟩
  rw [bl_mk] at hsr
  have B4 := bstep B3 hb4
  have HK4 := Lib.hid hL4
  have HL4 := Lib.hid (HL3.out.below hb4)
  have HKo := Lib.hid hok4
  have HSr := Lib.hid hsr
  have HSt := Lib.hid hst
  have HEn := Lib.hid (Entries_all HL4.out (by omega))
  have hg4 : w3.heap.size < w4.heap.size := HK4.out.lt
  clear hsl hb4 hL4 hok4 hsr hst
  go_wp2_with fail
  refine HEn.out.mono ?_
  rintro e w5 ⟨A3, c3, rfl, _, _, _, hs5, hb5⟩
  have B5 := bstep B4 hb5
  have HS5 := Lib.hid hs5
  have HL5 := Lib.hid (HL4.out.below hb5)
  have HK5 := Lib.hid (HK4.out.below hb5)
  have HE5 := Lib.hid (HE.out.below B5)
  have hg5 : w3.heap.size < w5.heap.size := HK5.out.lt
  clear hs5 hb5
  go_wp2
  go_loopw [10, 11, 13, 14, 15, 47] (fun t10 t11 _ _ _ i wr => ∃ (m o : Nat), m ≤ L.length ∧ i = .int .i64 (m : Int) ∧ t11 = .int .i64 (m : Int) ∧ t10 = .int .i64 (o : Int) ∧ o = (encs (L.take m)).length ∧ o ≤ p ∧ Below w5.heap.size w5 wr) (fun _ _ _ _ _ i _ => L.length - (intOf i).toNat)
  case atStart => exact ⟨0, 0, by omega, rfl, rfl, rfl, rfl, by omega, Below.refl _ _⟩
  case round =>
    obtain ⟨m, o, hm, rfl, rfl, rfl, ho, hop, hbr⟩ := hrel
    have HO := Lib.hid ho
    clear ho
    by_cases hlt : m < L.length
    · obtain ⟨x, hx⟩ : ∃ x, L[m]? = some x := ⟨L[m], List.getElem?_eq_getElem hlt⟩
      have hox := (HOk.out.1 m x hx).2
      obtain ⟨b, off, rfl, hb, q0, q1, q2, q3⟩ := Sl.four HS5.out m hlt
      rw [hx] at q0 q1 q2 q3
      simp only [Option.getD_some] at q0 q1 q2 q3
      have o0 := (hbr.cell (p := ⟨b, off + m * 4, none⟩) hb).trans q0
      have o1 := (hbr.cell (p := ⟨b, off + m * 4 + 1, none⟩) hb).trans q1
      have o2 := (hbr.cell (p := ⟨b, off + m * 4 + 2, none⟩) hb).trans q2
      have o3 := (hbr.cell (p := ⟨b, off + m * 4 + 3, none⟩) hb).trans q3
      have HEc := Lib.hid (fun W hW => Encode_ok x W hox hW)
      have hsn := encs_snoc hx
      have hel := (encL_len hox)
      have hez := size_mk (encL x)
      obtain ⟨F, hF⟩ : ∃ F, mk (encL x) = F := ⟨_, rfl⟩
      rw [hF] at HEc hez
      have hlen : (encs (L.take (m + 1))).length = o + F.size := by rw [hsn, List.length_append, ← HO.out, hez]
      have hF1 : F.size ≤ 160 := by omega
      have HLen := Lib.hid hlen
      have hba : ∀ v, Below w5.heap.size w5 (wr.alloc (.cells v 23)) := fun v => hbr.alloc hbr.size _
      have HBa := Lib.hid hba
      have hj0 : (0 : Int) ≤ (m : Int) := by omega
      have hjL : (m : Int) < (L.length : Int) := by omega
      have how : IntKind.i64.wrap ((o : Int) + (F.size : Int)) = (o : Int) + (F.size : Int) := IntWalk.i64_in _ (by omega)
      obtain ⟨xn, xt, xk, xx⟩ := x
      unfold valE at HEc
      simp only at HEc o0 o1 o2 o3
      clear hx hox q0 q1 q2 q3 hsn hel hez hF hlen hba
      go_wp2_with fail
      refine (HEc.out _ (HE5.out.below (HBa.out _))).mono ?_
      rintro e w6 ⟨rfl, hb6⟩
      have B6 := bstep (HBa.out _) hb6
      by_cases hbk : p < o + F.size
      · have hbk1 : decide ((p : Int) < (o : Int) + (F.size : Int)) = true := by simp; omega
        have hend : (encs (L.take m)).length ≤ p ∧ (m < L.length → p < (encs (L.take (m + 1))).length) := ⟨by rw [← HO.out]; exact hop, fun _ => by rw [HLen.out]; exact hbk⟩
        have HEnd := Lib.hid hend
        clear hbk hend
        go_upto_region 20 with (fail)
        have hle : l = L.take m := torn_eq HOk.out HKo.out HSt.out HSr.out hm HEnd.out.1 HEnd.out.2
        have hlo : (encs l).length = o := by rw [hle, HO.out]
        have hlm : l.length = m := by rw [hle, List.length_take]; omega
        have hlL : ∀ i, i < m → l[i]? = L[i]? := fun i hi => by rw [hle, List.getElem?_take, if_pos hi]
        have HlL := Lib.hid hlL
        have hto : (bl S).take o = encs l := by rw [HSb.out, encs_split L m, HO.out, List.take_left, hle]
        have hsl2 := fun W => slice_str S o (by omega) (by unfold maxLen; omega) W
        rw [hto] at hsl2
        rw [hlo]
        have HLV := Lib.hid (HL5.out.below B6)
        have HKV := Lib.hid (HK5.out.below B6)
        have HVV := Lib.hid (bstep B5 B6)
        have HEB := Lib.hid (fun (W : World) (hW : Below w6.heap.size w6 W) => Entries_all (HKV.out.below hW) (by omega))
        rw [hlm] at HEB
        have HEL := Lib.hid (fun (W : World) (hW : Below w6.heap.size w6 W) => Entries_all (HLV.out.below hW) (by omega))
        have HBB := Lib.hid (fun (W : World) (hW : Below w6.heap.size w6 W) => Bytes_any (HKV.out.below hW) (fun i e h => (HKo.out.1 i e h).2) (by omega) (HE.out.below (bstep HVV.out hW)))
        have HR := Lib.hid (Below.refl w6.heap.size w6)
        have hm0 : (0 : Int) ≤ (m : Int) := by omega
        clear hle hlo hlL hto
        go_region_held3 (fun _ => True) (exact trivial) ((first
          | (have _h8 := hs7'; go_at_call 19; refine (EqualE A4 A5 (fun k => (L[k]?).getD zeroE) m _ _ _ _ hs7'.out hs8'.out (by omega)).mono ?_; rintro e w9 ⟨rfl, q9, rfl⟩)
          | (have _h8 := hs7'; go_at_call 16; refine (HBB.out _ (by first | exact hv8 | exact below_drewN hv8 _ | exact below_drewN (below_drewN hv8 _) _ | exact below_drewN (below_drewN (below_drewN hv8 _) _) _)).mono ?_; rintro e w10 ⟨rfl, hb10⟩; have hv10 : Below w6.heap.size w6 w10 := (by first | exact hv8.trans (hb10.mono hv8.size) | exact (below_drewN hv8 _).trans (hb10.mono (below_drewN hv8 _).size) | exact (below_drewN (below_drewN hv8 _) _).trans (hb10.mono (below_drewN (below_drewN hv8 _) _).size)))
          | (have _h7 := hs7; go_at_call 18; refine (HEL.out _ (by first | exact hv7 | exact below_drewN hv7 _ | exact below_drewN (below_drewN hv7 _) _)).mono ?_; rintro e w8 ⟨A5, c5, rfl, hc5, _, hn5, hs8, hb8⟩; have hb8' : Below w7.heap.size w7 w8 := (by first | exact hb8 | exact Below.trans (below_drewN (Below.refl _ w7) _) hb8); have hv8 : Below w6.heap.size w6 w8 := hv7.trans (hb8'.mono hv7.size); have h34 := fun W => slice34 (A := A5) (c := c5) L.length m hm hc5 hn5 W; have hs7' := Lib.hid (((hs7.below hb8').more hb8'.size).congr (fun i hi => by rw [HlL.out i hi])); have hs8' := Lib.hid (hs8.less hm); clear hs7 hs8 hn5)
          | (go_at_call 18; refine (HEB.out _ (by first | exact HR.out | exact below_drewN HR.out _ | exact below_drewN (below_drewN HR.out _) _)).mono ?_; rintro e w7 ⟨A4, c4, rfl, _, _, _, hs7, hb7⟩; have hv7 : Below w6.heap.size w6 w7 := (by first | exact hb7 | exact Below.trans (below_drewN HR.out _) hb7))))
        all_goals (go_wp2; go_ret)
        all_goals exact ⟨rfl, by first | exact bstep HVV.out hv10 | exact below_drewN (bstep HVV.out hv10) _ | exact below_drewN (below_drewN (bstep HVV.out hv10) _) _⟩
      · have hbk1 : decide ((p : Int) < (o : Int) + (F.size : Int)) = false := by simp; omega
        have HBk := Lib.hid hbk
        clear hbk
        go_wp2
        go_roundw
        case rel => exact ⟨m + 1, o + F.size, by omega, by go_num, by go_num, by first | rfl | go_num, HLen.out.symm, by have := HBk.out; omega, B6⟩
        case measure => simp [intOf]; omega
    · obtain rfl : L.length = m := by omega
      have hend : (encs (L.take L.length)).length ≤ p ∧ (L.length < L.length → p < (encs (L.take (L.length + 1))).length) := ⟨by rw [← HO.out]; exact hop, fun h => absurd h (by omega)⟩
      have HEnd := Lib.hid hend
      clear hend
      go_upto_region 20 with (fail)
      have hle : l = L.take L.length := torn_eq HOk.out HKo.out HSt.out HSr.out hm HEnd.out.1 HEnd.out.2
      have hlo : (encs l).length = o := by rw [hle, HO.out]
      have hlm : l.length = L.length := by rw [hle, List.length_take]; omega
      have hlL : ∀ i, i < L.length → l[i]? = L[i]? := fun i hi => by rw [hle, List.getElem?_take, if_pos hi]
      have HlL := Lib.hid hlL
      have hto : (bl S).take o = encs l := by rw [HSb.out, encs_split L L.length, HO.out, List.take_left, hle]
      have hsl2 := fun W => slice_str S o (by omega) (by unfold maxLen; omega) W
      rw [hto] at hsl2
      rw [hlo]
      have HLV := Lib.hid (HL5.out.below hbr)
      have HKV := Lib.hid (HK5.out.below hbr)
      have HVV := Lib.hid (bstep B5 hbr)
      have HEB := Lib.hid (fun (W : World) (hW : Below wr.heap.size wr W) => Entries_all (HKV.out.below hW) (by omega))
      rw [hlm] at HEB
      have HEL := Lib.hid (fun (W : World) (hW : Below wr.heap.size wr W) => Entries_all (HLV.out.below hW) (by omega))
      have HBB := Lib.hid (fun (W : World) (hW : Below wr.heap.size wr W) => Bytes_any (HKV.out.below hW) (fun i e h => (HKo.out.1 i e h).2) (by omega) (HE.out.below (bstep HVV.out hW)))
      have HR := Lib.hid (Below.refl wr.heap.size wr)
      have hm0 : (0 : Int) ≤ (L.length : Int) := by omega
      clear hle hlo hlL hto
      go_region_held3 (fun _ => True) (exact trivial) ((first
        | (have _h8 := hs7'; go_at_call 19; refine (EqualE A4 A5 (fun k => (L[k]?).getD zeroE) L.length _ _ _ _ hs7'.out hs8'.out (by omega)).mono ?_; rintro e w9 ⟨rfl, q9, rfl⟩)
        | (have _h8 := hs7'; go_at_call 16; refine (HBB.out _ (by first | exact hv8 | exact below_drewN hv8 _ | exact below_drewN (below_drewN hv8 _) _ | exact below_drewN (below_drewN (below_drewN hv8 _) _) _)).mono ?_; rintro e w10 ⟨rfl, hb10⟩; have hv10 : Below wr.heap.size wr w10 := (by first | exact hv8.trans (hb10.mono hv8.size) | exact (below_drewN hv8 _).trans (hb10.mono (below_drewN hv8 _).size) | exact (below_drewN (below_drewN hv8 _) _).trans (hb10.mono (below_drewN (below_drewN hv8 _) _).size)))
        | (have _h7 := hs7; go_at_call 18; refine (HEL.out _ (by first | exact hv7 | exact below_drewN hv7 _ | exact below_drewN (below_drewN hv7 _) _)).mono ?_; rintro e w8 ⟨A5, c5, rfl, hc5, _, hn5, hs8, hb8⟩; have hb8' : Below w7.heap.size w7 w8 := (by first | exact hb8 | exact Below.trans (below_drewN (Below.refl _ w7) _) hb8); have hv8 : Below wr.heap.size wr w8 := hv7.trans (hb8'.mono hv7.size); have h34 := fun W => slice34 (A := A5) (c := c5) L.length L.length hm hc5 hn5 W; have hs7' := Lib.hid (((hs7.below hb8').more hb8'.size).congr (fun i hi => by rw [HlL.out i hi])); have hs8' := Lib.hid (hs8.less hm); clear hs7 hs8 hn5)
        | (go_at_call 18; refine (HEB.out _ (by first | exact HR.out | exact below_drewN HR.out _ | exact below_drewN (below_drewN HR.out _) _)).mono ?_; rintro e w7 ⟨A4, c4, rfl, _, _, _, hs7, hb7⟩; have hv7 : Below wr.heap.size wr w7 := (by first | exact hb7 | exact Below.trans (below_drewN HR.out _) hb7))))
      all_goals (go_wp2; go_ret)
      all_goals exact ⟨rfl, by first | exact bstep HVV.out hv10 | exact below_drewN (bstep HVV.out hv10) _ | exact below_drewN (below_drewN (bstep HVV.out hv10) _) _⟩
end Go.Proofs.YtahdjndpefclkaaDoor
