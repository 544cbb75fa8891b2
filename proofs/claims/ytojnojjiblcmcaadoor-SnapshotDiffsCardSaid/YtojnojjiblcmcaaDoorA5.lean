/- Package snapshot: Cut. -/
import Derived.Test.YtojnojjiblcmcaaDoorA4
namespace Go.Proofs.YtojnojjiblcmcaaDoor
open Go.RowKit

/-- What Cut answers. -/
def cutC (l : List Rw) (t : ByteArray) : Int := if checkL l ≠ 0 then checkL l else if hasK key1 l t = true then 0 else 8
def cutR (l : List Rw) (t : ByteArray) : List Rw := if cutC l t = 0 then cutK key1 l t else []
theorem cutK_len {l : List Rw} {t : ByteArray} (h : lowK key1 l t < l.length) : (cutK key1 l t).length = l.length - 1 := by
  unfold cutK; rw [List.length_append, List.length_take, List.length_drop]; omega

set_option maxRecDepth 100000 in
set_option maxHeartbeats 4000000 in
theorem Cut2_any (A : Option Addr) (n c : Nat) (l : List Rw) (w : World) (hA : Sl w w.heap.size 2 A n (fun i => rwV l[i]!)) (hl : l.length = n) (hz : ∀ x ∈ l, x.1.size ≤ maxLen ∧ x.2.size ≤ maxLen) (hn : n ≤ maxLen) (hnil : A = none → n = 0) (t : ByteArray) :
    Calls Tryd.prog 13 #[.slice A n c, .string t] w (StateP (cutR l t) (cutC l t) w) := by
  have HCk := Lib.hid (Check_any A n c l w hA hl hz hn)
  have HA := Lib.hid hA
  unfold maxLen at hn
  by_cases hc : checkL l = 0
  · have hf := fine_of hc
    have hlen := hf.len
    have HC := Lib.hid hc
    have HF : Hid (∀ W, Below w.heap.size w W → Calls Tryd.prog 27 #[.slice A n c, .string t] W (FindP l t W)) := Lib.hid fun W hb => find_any A n c l W ((HA.out.below hb).more hb.size) hl (by omega) hf.sorted t
    have hcl : ∀ W, Below w.heap.size w W → Calls Tryd.prog 26 #[.slice A n c] W fun e w' => ∃ v, e = .returned v ∧ w'.ownsRow W.heap.size 39 2 v n (rws l) ∧ Below W.heap.size W w' := fun W hb => by
      have := CloneRw_any A n c (fun i => rwV l[i]!) W ((HA.out.below hb).more hb.size) (fun _ _ => rfl) (fun i _ u hu => rwV_one _ u hu) hnil (by unfold maxLen; omega) (by omega)
      rw [← hl, ← rowsV_flat rwV_len l] at this
      rw [← hl]; exact this
    have HCL := Lib.hid hcl
    clear hA hz hcl hf
    cases hh : hasK key1 l t with
    | false =>
      have HS8 := Lib.hid (show cutC l t = 8 by unfold cutC; rw [if_neg (by simpa using hc), hh]; rfl)
      have HR8 := Lib.hid (show cutR l t = [] by unfold cutR; rw [HS8.out, if_neg (by decide)])
      have HH := Lib.hid hh
      clear hh hc
      go_enter Tryd.func13, Tryd.ntmps13
      go_wp2_with (first
        | (go_at_call 16; go_loud (refine HCk.out.mono ?_; rintro e w1 ⟨he1, hb1⟩; rw [HC.out] at he1; subst he1))
        | (go_at_call 27; go_loud (refine (HF.out _ hb1).mono ?_; rintro e w2 ⟨he2, hb2⟩; rw [HH.out] at he2; subst he2)))
      go_ret2
      exact StateP_nil HR8.out HS8.out.symm (bstep hb1 hb2)
    | true =>
      obtain ⟨h1, h2⟩ := hasK_at hh
      have HS0 := Lib.hid (show cutC l t = 0 by unfold cutC; rw [if_neg (by simpa using hc), hh]; rfl)
      have HR0 := Lib.hid (show cutR l t = cutK key1 l t by unfold cutR; rw [HS0.out, if_pos rfl])
      have HLN := Lib.hid (cutK_len h1)
      have HCU := Lib.hid (rowsV_cut rwV_len l _ h1)
      have HCK : Hid (cutK key1 l t = l.take (lowK key1 l t) ++ l.drop (lowK key1 l t + 1)) := Lib.hid rfl
      have HH := Lib.hid hh
      clear hh hc h2
      generalize hp : lowK key1 l t = p at *
      have HPP := Lib.hid hp
      clear hp
      have hp0 : (0 : Int) ≤ (p : Int) := by omega
      go_enter Tryd.func13, Tryd.ntmps13
      go_wp2_with (first
        | (go_at_call 16; go_loud (refine HCk.out.mono ?_; rintro e w1 ⟨he1, hb1⟩; rw [HC.out] at he1; subst he1))
        | (go_at_call 27; go_loud (refine (HF.out _ hb1).mono ?_; rintro e w2 ⟨he2, hb2⟩; rw [HH.out, HPP.out] at he2; subst he2; have HB2 := Lib.hid (bstep hb1 hb2); clear hb2))
        | (go_at_call 26; go_loud (refine (HCL.out _ HB2.out).mono ?_; rintro e w4 ⟨v4, rfl, ho4, hb4⟩; obtain ⟨A4, c4, rfl⟩ := own_shape ho4; obtain ⟨g4, cap4, hv4, hbg4, hlt4⟩ := ho4.form (by omega); obtain rfl : A4 = some ⟨g4, 0, none⟩ := (Value.slice.inj hv4).1; have HO4 := Lib.hid ho4; have HB4 := Lib.hid hb4; clear ho4 hb4 hv4))
        | (go_at_call 28; go_loud (refine (DeleteRw_at w2.heap.size g4 n c4 p (p + 1) (p : Int) ((p : Int) + 1) rfl (by omega) (rws l) _ HO4.out (rowsV_one rwV_one l) (n - 1 - p) (n - 1) (by omega) (by omega) (by omega)).mono ?_; rintro e w5 ⟨rfl, ho5, hg5⟩)))
      go_ret2
      rw [HCU.out] at ho5
      refine ⟨some ⟨g4, 0, none⟩, c4, ?_, ?_, ?_⟩
      · rw [HR0.out, HS0.out, HLN.out, hl]; rfl
      · rw [HR0.out, HLN.out, hl, HCK.out]; exact own_mono ho5 HB2.out.size
      · exact HB2.out.trans ((HB4.out.mono HB2.out.size).grown hg5 (Nat.le_trans HB2.out.size HB4.out.size) (fun k hk => by injection hk with hk; have := HB2.out.size; omega))
  · have hcb : (checkL l != 0) = true := by simpa using hc
    have HSE := Lib.hid (show cutC l t = checkL l by unfold cutC; rw [if_pos hc])
    have HRE := Lib.hid (show cutR l t = [] by unfold cutR; rw [HSE.out, if_neg hc])
    clear hc hA hz
    generalize hce : checkL l = ce at *
    have HCE := Lib.hid hce
    clear hce
    go_enter Tryd.func13, Tryd.ntmps13
    go_wp2_with (go_at_call 16; go_loud (refine HCk.out.mono ?_; rintro e w1 ⟨he1, hb1⟩; rw [HCE.out] at he1; subst he1))
    go_ret2
    exact StateP_nil HRE.out HSE.out.symm hb1
end Go.Proofs.YtojnojjiblcmcaaDoor
