/- The walk of SnapshotBack. -/
import Derived.Test.YtojnojjiblcmcaaDoorR3
import Derived.Test.YtojnojjiblcmcaaDoorB7
namespace Go.Proofs.YtojnojjiblcmcaaDoor
open Go.RowKit
open Go.Lib hiding intOf

theorem textB_size {l : List Rw} (h : Fine l) : (textB l).size ≤ 8192 := by
  unfold textB
  rw [ByteArray.size_append, ByteArray.size_append]
  have h1 := linesB_size (fine_small h)
  have h2 := hex_size (digN l) (digN_lt l)
  have h3 := h.len
  have h4 : bNl.size = 1 := rfl
  omega

/-- A state in memory. -/
structure StAt (l : List Rw) (A : Option Addr) (n : Nat) (w : World) : Prop where
  sl : Sl w w.heap.size 2 A n (fun i => rwV l[i]!)
  len : l.length = n
  z : ∀ x ∈ l, x.1.size ≤ maxLen ∧ x.2.size ≤ maxLen
  le : n ≤ maxLen
  nil : A = none → n = 0
theorem StAt.below {l : List Rw} {A : Option Addr} {n : Nat} {w w' : World} (h : StAt l A n w) (hb : Below w.heap.size w w') : StAt l A n w' :=
  ⟨(h.sl.below hb).more hb.size, h.len, h.z, h.le, h.nil⟩
theorem StAt.of_own {l : List Rw} {A : Option Addr} {c base : Nat} {w : World} (hf : Fine l) (h : w.ownsRow base 39 2 (.slice A l.length c) l.length (rws l)) : StAt l A l.length w :=
  ⟨Sl_rows rwV_len h rfl (by decide), rfl, small_max hf, by have := hf.len; unfold maxLen; omega, fun hA => (own_nil h hA).1⟩

set_option maxRecDepth 100000 in
set_option maxHeartbeats 4000000 in
theorem Back_walk (A : Option Addr) (n c : Nat) (l : List Rw) (s : ByteArray) (w : World) (h : StAt l A n w) (hs : s.size ≤ 9223372036854775807) (he : EnvS w) :
    Calls Tryd.prog 5 #[.slice A n c, .string s] w fun v w' => v = .returned (.bool true) ∧ Below w.heap.size w w' := by
  have hln := h.len
  subst hln
  have HH := Lib.hid h
  have HV := Lib.hid he
  have HT := Lib.hid (Text_any A l.length c l w h.sl rfl h.z h.le he.tab he.big)
  have HR := Lib.hid (fun W hW => Read_any s W hs hW)
  have HLm := Lib.hid h.le
  have HCk := Lib.hid (fun W (hW : Below w.heap.size w W) => Check_any A l.length c l W (h.below hW).sl rfl h.z h.le)
  have HRo := Lib.hid (fun h => read_ok (s := s) h)
  have HRe := Lib.hid (fun h => read_err (s := s) h)
  clear h hs he
  obtain ⟨S, hS⟩ : ∃ S, readL s = S := ⟨_, rfl⟩
  rw [hS] at HR HRo HRe
  obtain ⟨LS, cS⟩ := S
  simp only at HR HRo HRe
  clear hS
  unfold TextP at HT
  by_cases hc : checkL l = 0
  · have hf := fine_of hc
    have HRt := Lib.hid (fun W hW => Read_any (textB l) W (by have := textB_size hf; omega) hW)
    rw [read_text hf (textB_size hf)] at HRt
    rw [show textL l = textB l from by unfold textL; rw [if_pos hc], hc] at HT
    obtain ⟨T, hT⟩ : ∃ T, textB l = T := ⟨_, rfl⟩
    rw [hT] at HT HRt
    have HCe := Lib.hid hc
    clear hc hf hT
    by_cases hc0 : cS = 0
    · obtain ⟨hr1, hr2⟩ := HRo.out hc0
      have HFs := Lib.hid (fine_of hr1)
      have HTx := Lib.hid (fun (A4 : Option Addr) (c4 : Nat) (W : World) (hW : StAt LS A4 LS.length W) (hE : EnvS W) => Text_any A4 LS.length c4 LS W hW.sl rfl hW.z hW.le hE.tab hE.big)
      unfold TextP at HTx
      rw [show textL LS = s from by unfold textL; rw [if_pos hr1, hr2], hr1] at HTx
      subst hc0
      clear hr1 hr2 HRo HRe
      go_enter Tryd.func5, Tryd.ntmps5
      go_wp2_with (first
        | (have _h := B4; go_at_call 14; go_loud (refine (HTx.out A4 c4 _ HS4.out (HV.out.below B4)).mono ?_; rintro e w5 ⟨rfl, hb5⟩; have B5 := bstep B4 hb5))
        | (have _h := B3; go_at_call 15; go_loud (refine (HR.out _ (HV.out.below B3)).mono ?_; rintro e w4 ⟨A4, c4, rfl, ho4, hb4⟩; have B4 := bstep B3 hb4; have HS4 := Lib.hid (StAt.of_own HFs.out ho4); clear ho4))
        | (go_at_call 15; go_loud (refine (HRt.out _ (HV.out.below hb1)).mono ?_; rintro e w2 ⟨A2, c2, rfl, ho2, hb2⟩; have B2 := bstep hb1 hb2; have HS2 := Lib.hid (Sl_rows rwV_len ho2 rfl (by decide)); clear ho2))
        | (go_at_call 11; go_loud (refine (Same_any A A2 l.length c c2 w2.heap.size l _ ((HH.out.sl.below B2).more B2.size) HS2.out HLm.out).mono ?_; rintro e w3 ⟨rfl, hb3⟩; have B3 := bstep B2 hb3))
        | (go_at_call 14; go_loud (refine HT.out.mono ?_; rintro e w1 ⟨rfl, hb1⟩))
        | (go_at_call 9; go_loud (refine (Fact_any _ (HV.out.below B5).tab (HV.out.below B5).big).mono ?_; rintro e w6 ⟨rfl, hb6⟩)))
      go_ret
      exact ⟨rfl, bstep B5 hb6⟩
    · obtain rfl : LS = [] := HRe.out hc0
      have hcb : (cS != 0) = true := by simpa using hc0
      have hcb2 : (cS == 0) = false := by simpa using hc0
      clear hc0 HRo HRe
      go_enter Tryd.func5, Tryd.ntmps5
      go_wp2_with (first
        | (have _h := B3; go_at_call 15; go_loud (refine (HR.out _ (HV.out.below B3)).mono ?_; rintro e w4 ⟨A4, c4, rfl, ho4, hb4⟩; have B4 := bstep B3 hb4; clear ho4))
        | (go_at_call 15; go_loud (refine (HRt.out _ (HV.out.below hb1)).mono ?_; rintro e w2 ⟨A2, c2, rfl, ho2, hb2⟩; have B2 := bstep hb1 hb2; have HS2 := Lib.hid (Sl_rows rwV_len ho2 rfl (by decide)); clear ho2))
        | (go_at_call 11; go_loud (refine (Same_any A A2 l.length c c2 w2.heap.size l _ ((HH.out.sl.below B2).more B2.size) HS2.out HLm.out).mono ?_; rintro e w3 ⟨rfl, hb3⟩; have B3 := bstep B2 hb3))
        | (go_at_call 14; go_loud (refine HT.out.mono ?_; rintro e w1 ⟨rfl, hb1⟩))
        | (go_at_call 9; go_loud (refine (Fact_any _ (HV.out.below B4).tab (HV.out.below B4).big).mono ?_; rintro e w5 ⟨rfl, hb5⟩; have B5 := bstep B4 hb5))
        | (go_at_call 16; go_loud (refine (HCk.out _ B5).mono ?_; rintro e w6 ⟨he6, hb6⟩; rw [HCe.out] at he6; subst he6)))
      go_ret
      exact ⟨rfl, bstep B5 hb6⟩
  · obtain ⟨ce, hce⟩ : ∃ ce, checkL l = ce := ⟨_, rfl⟩
    rw [hce] at hc HT
    have hcx : (ce == 0) = false := by simpa using hc
    have HCe := Lib.hid hce
    clear hc hce
    by_cases hc0 : cS = 0
    · obtain ⟨hr1, hr2⟩ := HRo.out hc0
      have HFs := Lib.hid (fine_of hr1)
      have HTx := Lib.hid (fun (A4 : Option Addr) (c4 : Nat) (W : World) (hW : StAt LS A4 LS.length W) (hE : EnvS W) => Text_any A4 LS.length c4 LS W hW.sl rfl hW.z hW.le hE.tab hE.big)
      unfold TextP at HTx
      rw [show textL LS = s from by unfold textL; rw [if_pos hr1, hr2], hr1] at HTx
      subst hc0
      clear hr1 hr2 HRo HRe
      go_enter Tryd.func5, Tryd.ntmps5
      go_wp2_with (first
        | (have _h := B4; go_at_call 14; go_loud (refine (HTx.out A4 c4 _ HS4.out (HV.out.below B4)).mono ?_; rintro e w5 ⟨rfl, hb5⟩; have B5 := bstep B4 hb5))
        | (have _h := B3; go_at_call 15; go_loud (refine (HR.out _ (HV.out.below B3)).mono ?_; rintro e w4 ⟨A4, c4, rfl, ho4, hb4⟩; have B4 := bstep B3 hb4; have HS4 := Lib.hid (StAt.of_own HFs.out ho4); clear ho4))
        | (go_at_call 14; go_loud (refine HT.out.mono ?_; rintro e w1 ⟨rfl, hb1⟩; have B3 := hb1))
        | (go_at_call 9; go_loud (refine (Fact_any _ (HV.out.below B5).tab (HV.out.below B5).big).mono ?_; rintro e w6 ⟨rfl, hb6⟩)))
      go_ret
      exact ⟨rfl, bstep B5 hb6⟩
    · obtain rfl : LS = [] := HRe.out hc0
      have hcb : (cS != 0) = true := by simpa using hc0
      have hcb2 : (cS == 0) = false := by simpa using hc0
      clear hc0 HRo HRe
      go_enter Tryd.func5, Tryd.ntmps5
      go_wp2_with (first
        | (have _h := B3; go_at_call 15; go_loud (refine (HR.out _ (HV.out.below B3)).mono ?_; rintro e w4 ⟨A4, c4, rfl, ho4, hb4⟩; have B4 := bstep B3 hb4; clear ho4))
        | (go_at_call 14; go_loud (refine HT.out.mono ?_; rintro e w1 ⟨rfl, hb1⟩; have B3 := hb1))
        | (go_at_call 9; go_loud (refine (Fact_any _ (HV.out.below B4).tab (HV.out.below B4).big).mono ?_; rintro e w5 ⟨rfl, hb5⟩; have B5 := bstep B4 hb5))
        | (go_at_call 16; go_loud (refine (HCk.out _ B5).mono ?_; rintro e w6 ⟨he6, hb6⟩; rw [HCe.out] at he6; subst he6)))
      go_ret
      exact ⟨rfl, bstep B5 hb6⟩
end Go.Proofs.YtojnojjiblcmcaaDoor
