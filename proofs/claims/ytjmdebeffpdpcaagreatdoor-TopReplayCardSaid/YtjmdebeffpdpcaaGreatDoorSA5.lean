/- Package snapshot: Cut. -/
import Derived.Test.YtjmdebeffpdpcaaGreatDoorSA3
namespace Go.Proofs.YtjmdebeffpdpcaaGreatDoor
open Go.RowKit

theorem grown_undrew {a b : World} {row : Option Nat} (h : a.drew.grownBy b row) : a.grownBy b row := ⟨h.os, h.tape, h.output, h.size, h.block⟩

/-- A row of one's own holds one more, or another value. -/
def RowP (base : Nat) (l : List Rw) (w : World) (e : Ending) (w' : World) : Prop :=
  ∃ A c, e = .returned (.slice A l.length c) ∧ w'.ownsRow base 54 2 (.slice A l.length c) l.length (rws l) ∧ Below base w w'

theorem set_spare {l : List Rw} {t : ByteArray} {v : ByteArray} (h : hasK key1 l t = true) : putK key1 l (t, v) = l.set (lowK key1 l t) (t, v) := by
  unfold putK
  rw [show key1 (t, v) = t from rfl, h, if_pos rfl]
theorem set_new {l : List Rw} {t : ByteArray} {v : ByteArray} (h : hasK key1 l t = false) : putK key1 l (t, v) = l.take (lowK key1 l t) ++ (t, v) :: l.drop (lowK key1 l t) := by
  unfold putK
  rw [show key1 (t, v) = t from rfl, h, if_neg (by decide)]

set_option maxRecDepth 100000 in
set_option maxHeartbeats 4000000 in
theorem set_any (base : Nat) (A : Option Addr) (n c : Nat) (l : List Rw) (w : World) (h : w.ownsRow base 54 2 (.slice A n c) n (rws l)) (hl : l.length = n) (hb : base ≤ w.heap.size) (hs : SortedK key1 l) (hn : n ≤ 1000) (t v : ByteArray) :
    Calls Tryz.prog 46 #[.slice A n c, .string t, .string v] w (RowP base (putK key1 l (t, v)) w) := by
  have hle := lowK_le (k := key1) l t
  have hF := find_any A n c l w (Sl_rows rwV_len h hl (by decide)) hl hn hs t
  have HFd := Lib.hid hF
  have HO := Lib.hid h
  clear hF
  cases hh : hasK key1 l t with
  | true =>
    obtain ⟨h1, h2⟩ := hasK_at hh
    have HP := Lib.hid (set_spare (v := v) hh)
    have HH := Lib.hid hh
    obtain ⟨g, cap, hv, hbg, hlt⟩ := h.form (by omega)
    have hA : A = some ⟨g, 0, none⟩ := by injection hv
    subst hA
    have hrow : (rws l).set (lowK key1 l t * 2 + 1) (.string v) = rws (l.set (lowK key1 l t) (t, v)) := rowsV_cell rwV_len l _ h1 1 (by decide) _ _ (by
      have h2 : (l[lowK key1 l t]!).1 = t := h2
      show [Value.string (l[lowK key1 l t]!).1, Value.string v] = [Value.string t, Value.string v]
      rw [h2])
    have HRW := Lib.hid hrow
    have hcap := own_cap h
    unfold maxLen at hcap
    clear hh h2 hs hv h hrow
    generalize hp : lowK key1 l t = p at *
    have HPP := Lib.hid hp
    clear hp
    have hp0 : (0 : Int) ≤ (p : Int) := by omega
    have hpl : (p : Int) < (n : Int) := by omega
    go_enter Tryz.func46, Tryz.ntmps46
    go_wp2_with (go_at_call 50; go_loud (refine HFd.out.mono ?_; rintro e w1 ⟨he1, hb1⟩; rw [HH.out, HPP.out] at he1; subst he1; have HO1 := Lib.hid (own_below HO.out hb1 (Nat.le_refl _)); have s1 := own_some HO1.out (p * 2 + 1) (by omega); obtain ⟨z1, z2⟩ : (∃ z, w1.cell? ⟨g, p * 2 + 1, none⟩ = some z) ∧ w1.frozen? ⟨g, p * 2 + 1, none⟩ = false := ⟨Option.isSome_iff_exists.1 s1.1, s1.2⟩; obtain ⟨z, z1⟩ := z1; clear s1))
    go_ret
    obtain ⟨hst, hgr⟩ := HO1.out.stored (p * 2 + 1) (.string v)
    rw [HRW.out] at hst
    refine ⟨some ⟨g, 0, none⟩, c, ?_, ?_, ?_⟩
    · rw [HP.out, List.length_set, hl]; rfl
    · rw [HP.out, List.length_set, hl]; exact hst
    · exact (hb1.mono hb).setCell (p := ⟨g, p * 2 + 1, none⟩) hbg _
  | false =>
    have HP := Lib.hid (set_new (v := v) hh)
    have HH := Lib.hid hh
    have hins := rowsV_ins rwV_len l (lowK key1 l t) hle (t, v)
    have HIN := Lib.hid hins
    clear hh hs hins
    generalize hp : lowK key1 l t = p at *
    have HPP := Lib.hid hp
    clear hp h
    go_enter Tryz.func46, Tryz.ntmps46
    go_wp2_with (first
      | (go_at_call 50; go_loud (refine HFd.out.mono ?_; rintro e w1 ⟨he1, hb1⟩; rw [HH.out, HPP.out] at he1; subst he1; have HB1 := Lib.hid hb1; have hz1 := hb1.size; clear hb1))
      | (go_at_call 68; go_loud (refine (InsertRw_own base n c p w1.heap.size A (rws l) (rwV (t, v)) _ ((own_below HO.out HB1.out (Nat.le_refl _)).alloc _) (rowsV_one rwV_one l) rfl (rwV_one _) (heap_alloc_new w1 _) (fun e => by have := (HO.out.lt _ e).2; omega) (by omega) (by omega) (by simp; omega)).mono ?_; rintro e w5 ⟨g5, c5, rfl, ho5, hg5, ha5, hl5⟩)))
    go_ret
    rw [HIN.out] at ho5
    have hlen : (l.take p ++ (t, v) :: l.drop p).length = n + 1 := by simp; omega
    refine ⟨some ⟨g5, 0, none⟩, c5, ?_, ?_, ?_⟩
    · rw [HP.out, hlen]; rfl
    · rw [HP.out, hlen]; exact ho5
    · exact ((HB1.out.mono hb).alloc (by omega) _).grown hg5 (by simp; omega) (fun k hk => (HO.out.lt k hk).1)

/-- What Set answers. -/
def setC (l : List Rw) (t v : ByteArray) : Int := if checkL l ≠ 0 then checkL l else if !(keyB t && valB v) then 3 else if 64 < (putK key1 l (t, v)).length then 9 else 0
def setR (l : List Rw) (t v : ByteArray) : List Rw := if setC l t v = 0 then putK key1 l (t, v) else []
def StateP (l : List Rw) (code : Int) (w : World) (e : Ending) (w' : World) : Prop :=
  ∃ A c, e = .returned (.tuple #[.slice A l.length c, .int .i64 code]) ∧ w'.ownsRow w.heap.size 54 2 (.slice A l.length c) l.length (rws l) ∧ Below w.heap.size w w'

theorem StateP_nil {l : List Rw} {code code' : Int} {w w' : World} (hl : l = []) (hc : code' = code) (hb : Below w.heap.size w w') : StateP l code w (.returned (.tuple #[.slice none 0 0, .int .i64 code'])) w' := by
  subst hl hc
  exact ⟨none, 0, rfl, World.ownsRow_nil _ _ _ _, hb⟩

set_option maxRecDepth 100000 in
set_option maxHeartbeats 4000000 in
theorem Set_any (A : Option Addr) (n c : Nat) (l : List Rw) (w : World) (hA : Sl w w.heap.size 2 A n (fun i => rwV l[i]!)) (hl : l.length = n) (hz : ∀ x ∈ l, x.1.size ≤ maxLen ∧ x.2.size ≤ maxLen) (hn : n ≤ maxLen) (hnil : A = none → n = 0) (t v : ByteArray) (ht : t.size ≤ maxLen) (hv : v.size ≤ maxLen) :
    Calls Tryz.prog 30 #[.slice A n c, .string t, .string v] w (StateP (setR l t v) (setC l t v) w) := by
  have HCk := Lib.hid (Check_any A n c l w hA hl hz hn)
  have HA := Lib.hid hA
  unfold maxLen at hn
  by_cases hc : checkL l = 0
  · have hf := fine_of hc
    have hlen := hf.len
    have HC := Lib.hid hc
    have hcl : ∀ W, Below w.heap.size w W → Calls Tryz.prog 47 #[.slice A n c] W fun e w' => ∃ v, e = .returned v ∧ w'.ownsRow W.heap.size 54 2 v n (rws l) ∧ Below W.heap.size W w' := fun W hb => by
      have := CloneRw_any A n c (fun i => rwV l[i]!) W ((HA.out.below hb).more hb.size) (fun _ _ => rfl) (fun i _ u hu => rwV_one _ u hu) hnil (by unfold maxLen; omega) (by omega)
      rw [← hl, ← rowsV_flat rwV_len l] at this
      rw [← hl]; exact this
    have HCL := Lib.hid hcl
    have HSo := Lib.hid hf.sorted
    clear hA hz hcl hf
    by_cases hkv : (keyB t && valB v) = true
    · have hk : keyB t = true := by
        cases h : keyB t with
        | true => rfl
        | false => rw [h] at hkv; cases hkv
      have hvv : valB v = true := by
        rw [hk] at hkv; exact hkv
      have HSC : Hid (setC l t v = if 64 < (putK key1 l (t, v)).length then 9 else 0) := Lib.hid (by unfold setC; rw [if_neg (by simpa using hc), if_neg (by simp [hkv])])
      have HK := Lib.hid hk
      have HVV := Lib.hid hvv
      clear hkv hk hvv hc
      have hpl := putK_len (k := key1) l (t, v)
      by_cases h64 : 64 < (putK key1 l (t, v)).length
      · have HS9 := Lib.hid (show setC l t v = 9 by rw [HSC.out, if_pos h64])
        have HR9 := Lib.hid (show setR l t v = [] by unfold setR; rw [HS9.out, if_neg (by decide)])
        clear HSC
        go_enter Tryz.func30, Tryz.ntmps30
        go_wp2_with (first
          | (go_at_call 28; go_loud (refine HCk.out.mono ?_; rintro e w1 ⟨he1, hb1⟩; rw [HC.out] at he1; subst he1))
          | (go_at_call 42; go_loud (refine (Key_any t _ ht).mono ?_; rintro e w2 ⟨he2, hb2⟩; rw [HK.out] at he2; subst he2; have HB2 := Lib.hid (bstep hb1 hb2); clear hb2))
          | (go_at_call 43; go_loud (refine (isValue_any v _ hv).mono ?_; rintro e w3 ⟨he3, hb3⟩; rw [HVV.out] at he3; subst he3; have HB3 := Lib.hid (bstep HB2.out hb3); clear hb3))
          | (go_at_call 47; go_loud (refine (HCL.out _ HB3.out).mono ?_; rintro e w4 ⟨v4, rfl, ho4, hb4⟩; obtain ⟨A4, c4, rfl⟩ := own_shape ho4; have HO4 := Lib.hid ho4; have HB4 := Lib.hid hb4; clear ho4 hb4))
          | (go_at_call 46; go_loud (refine (set_any w3.heap.size A4 n c4 l _ HO4.out hl HB4.out.size HSo.out (by omega) t v).mono ?_; rintro e w5 ⟨A5, c5, rfl, ho5, hb5⟩)))
        go_ret2
        exact StateP_nil HR9.out HS9.out.symm (HB3.out.trans ((HB4.out.trans hb5).mono HB3.out.size))
      · have HS0 := Lib.hid (show setC l t v = 0 by rw [HSC.out, if_neg h64])
        have HR0 := Lib.hid (show setR l t v = putK key1 l (t, v) by unfold setR; rw [HS0.out, if_pos rfl])
        clear HSC
        go_enter Tryz.func30, Tryz.ntmps30
        go_wp2_with (first
          | (go_at_call 28; go_loud (refine HCk.out.mono ?_; rintro e w1 ⟨he1, hb1⟩; rw [HC.out] at he1; subst he1))
          | (go_at_call 42; go_loud (refine (Key_any t _ ht).mono ?_; rintro e w2 ⟨he2, hb2⟩; rw [HK.out] at he2; subst he2; have HB2 := Lib.hid (bstep hb1 hb2); clear hb2))
          | (go_at_call 43; go_loud (refine (isValue_any v _ hv).mono ?_; rintro e w3 ⟨he3, hb3⟩; rw [HVV.out] at he3; subst he3; have HB3 := Lib.hid (bstep HB2.out hb3); clear hb3))
          | (go_at_call 47; go_loud (refine (HCL.out _ HB3.out).mono ?_; rintro e w4 ⟨v4, rfl, ho4, hb4⟩; obtain ⟨A4, c4, rfl⟩ := own_shape ho4; have HO4 := Lib.hid ho4; have HB4 := Lib.hid hb4; clear ho4 hb4))
          | (go_at_call 46; go_loud (refine (set_any w3.heap.size A4 n c4 l _ HO4.out hl HB4.out.size HSo.out (by omega) t v).mono ?_; rintro e w5 ⟨A5, c5, rfl, ho5, hb5⟩)))
        go_ret2
        refine ⟨A5, c5, by rw [HR0.out, HS0.out]; rfl, by rw [HR0.out]; exact own_mono ho5 HB3.out.size, HB3.out.trans ((HB4.out.trans hb5).mono HB3.out.size)⟩
    · have HS3 := Lib.hid (show setC l t v = 3 by unfold setC; rw [if_neg (by simpa using hc), if_pos (by cases h : (keyB t && valB v) with | true => exact absurd h hkv | false => rfl)])
      have HR3 := Lib.hid (show setR l t v = [] by unfold setR; rw [HS3.out, if_neg (by decide)])
      clear hc
      cases hk : keyB t with
      | false =>
        have HK := Lib.hid hk
        clear hk hkv
        go_enter Tryz.func30, Tryz.ntmps30
        go_wp2_with (first
          | (go_at_call 28; go_loud (refine HCk.out.mono ?_; rintro e w1 ⟨he1, hb1⟩; rw [HC.out] at he1; subst he1))
          | (go_at_call 42; go_loud (refine (Key_any t _ ht).mono ?_; rintro e w2 ⟨he2, hb2⟩; rw [HK.out] at he2; subst he2; have HB2 := Lib.hid (bstep hb1 hb2); clear hb2)))
        go_ret2
        exact StateP_nil HR3.out HS3.out.symm HB2.out
      | true =>
        have HK := Lib.hid hk
        have HVV := Lib.hid (show valB v = false by rw [hk] at hkv; simpa using hkv)
        clear hk hkv
        go_enter Tryz.func30, Tryz.ntmps30
        go_wp2_with (first
          | (go_at_call 28; go_loud (refine HCk.out.mono ?_; rintro e w1 ⟨he1, hb1⟩; rw [HC.out] at he1; subst he1))
          | (go_at_call 42; go_loud (refine (Key_any t _ ht).mono ?_; rintro e w2 ⟨he2, hb2⟩; rw [HK.out] at he2; subst he2; have HB2 := Lib.hid (bstep hb1 hb2); clear hb2))
          | (go_at_call 43; go_loud (refine (isValue_any v _ hv).mono ?_; rintro e w3 ⟨he3, hb3⟩; rw [HVV.out] at he3; subst he3; have HB3 := Lib.hid (bstep HB2.out hb3); clear hb3)))
        go_ret2
        exact StateP_nil HR3.out HS3.out.symm HB3.out
  · have hcb : (checkL l != 0) = true := by simpa using hc
    have HSE := Lib.hid (show setC l t v = checkL l by unfold setC; rw [if_pos hc])
    have HRE := Lib.hid (show setR l t v = [] by unfold setR; rw [HSE.out, if_neg hc])
    clear hc hA hz
    generalize hce : checkL l = ce at *
    have HCE := Lib.hid hce
    clear hce
    go_enter Tryz.func30, Tryz.ntmps30
    go_wp2_with (go_at_call 28; go_loud (refine HCk.out.mono ?_; rintro e w1 ⟨he1, hb1⟩; rw [HCE.out] at he1; subst he1))
    go_ret2
    exact StateP_nil HRE.out HSE.out.symm hb1
end Go.Proofs.YtjmdebeffpdpcaaGreatDoor

namespace Go.Proofs.YtjmdebeffpdpcaaGreatDoor
open Go.RowKit

/-- What Cut answers. -/
def cutC (l : List Rw) (t : ByteArray) : Int := if checkL l ≠ 0 then checkL l else if hasK key1 l t = true then 0 else 8
def cutR (l : List Rw) (t : ByteArray) : List Rw := if cutC l t = 0 then cutK key1 l t else []
theorem cutK_len {l : List Rw} {t : ByteArray} (h : lowK key1 l t < l.length) : (cutK key1 l t).length = l.length - 1 := by
  unfold cutK; rw [List.length_append, List.length_take, List.length_drop]; omega

set_option maxRecDepth 100000 in
set_option maxHeartbeats 4000000 in
theorem Cut2_any (A : Option Addr) (n c : Nat) (l : List Rw) (w : World) (hA : Sl w w.heap.size 2 A n (fun i => rwV l[i]!)) (hl : l.length = n) (hz : ∀ x ∈ l, x.1.size ≤ maxLen ∧ x.2.size ≤ maxLen) (hn : n ≤ maxLen) (hnil : A = none → n = 0) (t : ByteArray) :
    Calls Tryz.prog 32 #[.slice A n c, .string t] w (StateP (cutR l t) (cutC l t) w) := by
  have HCk := Lib.hid (Check_any A n c l w hA hl hz hn)
  have HA := Lib.hid hA
  unfold maxLen at hn
  by_cases hc : checkL l = 0
  · have hf := fine_of hc
    have hlen := hf.len
    have HC := Lib.hid hc
    have HF : Hid (∀ W, Below w.heap.size w W → Calls Tryz.prog 50 #[.slice A n c, .string t] W (FindP l t W)) := Lib.hid fun W hb => find_any A n c l W ((HA.out.below hb).more hb.size) hl (by omega) hf.sorted t
    have hcl : ∀ W, Below w.heap.size w W → Calls Tryz.prog 47 #[.slice A n c] W fun e w' => ∃ v, e = .returned v ∧ w'.ownsRow W.heap.size 54 2 v n (rws l) ∧ Below W.heap.size W w' := fun W hb => by
      have := CloneRw_any A n c (fun i => rwV l[i]!) W ((HA.out.below hb).more hb.size) (fun _ _ => rfl) (fun i _ u hu => rwV_one _ u hu) hnil (by unfold maxLen; omega) (by omega)
      rw [← hl, ← rowsV_flat rwV_len l] at this
      rw [← hl]; exact this
    have HCL := Lib.hid hcl
    clear hA hz hcl hf
    cases hh : hasK key1 l t with
    | false =>
      have HS8 := Lib.hid (show cutC l t = 8 by unfold cutC; rw [if_neg (by simpa using hc), hh]; rfl)
      have HR8 := Lib.hid (show cutR l t = [] by unfold cutR; rw [HS8.out, if_neg (by decide)])
      have HH := Lib.hid hh
      clear hh hc
      go_enter Tryz.func32, Tryz.ntmps32
      go_wp2_with (first
        | (go_at_call 28; go_loud (refine HCk.out.mono ?_; rintro e w1 ⟨he1, hb1⟩; rw [HC.out] at he1; subst he1))
        | (go_at_call 50; go_loud (refine (HF.out _ hb1).mono ?_; rintro e w2 ⟨he2, hb2⟩; rw [HH.out] at he2; subst he2)))
      go_ret2
      exact StateP_nil HR8.out HS8.out.symm (bstep hb1 hb2)
    | true =>
      obtain ⟨h1, h2⟩ := hasK_at hh
      have HS0 := Lib.hid (show cutC l t = 0 by unfold cutC; rw [if_neg (by simpa using hc), hh]; rfl)
      have HR0 := Lib.hid (show cutR l t = cutK key1 l t by unfold cutR; rw [HS0.out, if_pos rfl])
      have HLN := Lib.hid (cutK_len h1)
      have HCU := Lib.hid (rowsV_cut rwV_len l _ h1)
      have HCK : Hid (cutK key1 l t = l.take (lowK key1 l t) ++ l.drop (lowK key1 l t + 1)) := Lib.hid rfl
      have HH := Lib.hid hh
      clear hh hc h2
      generalize hp : lowK key1 l t = p at *
      have HPP := Lib.hid hp
      clear hp
      have hp0 : (0 : Int) ≤ (p : Int) := by omega
      go_enter Tryz.func32, Tryz.ntmps32
      go_wp2_with (first
        | (go_at_call 28; go_loud (refine HCk.out.mono ?_; rintro e w1 ⟨he1, hb1⟩; rw [HC.out] at he1; subst he1))
        | (go_at_call 50; go_loud (refine (HF.out _ hb1).mono ?_; rintro e w2 ⟨he2, hb2⟩; rw [HH.out, HPP.out] at he2; subst he2; have HB2 := Lib.hid (bstep hb1 hb2); clear hb2))
        | (go_at_call 47; go_loud (refine (HCL.out _ HB2.out).mono ?_; rintro e w4 ⟨v4, rfl, ho4, hb4⟩; obtain ⟨A4, c4, rfl⟩ := own_shape ho4; obtain ⟨g4, cap4, hv4, hbg4, hlt4⟩ := ho4.form (by omega); obtain rfl : A4 = some ⟨g4, 0, none⟩ := (Value.slice.inj hv4).1; have HO4 := Lib.hid ho4; have HB4 := Lib.hid hb4; clear ho4 hb4 hv4))
        | (go_at_call 51; go_loud (refine (DeleteRw_at w2.heap.size g4 n c4 p (p + 1) (p : Int) ((p : Int) + 1) rfl (by omega) (rws l) _ HO4.out (rowsV_one rwV_one l) (n - 1 - p) (n - 1) (by omega) (by omega) (by omega)).mono ?_; rintro e w5 ⟨rfl, ho5, hg5⟩)))
      go_ret2
      rw [HCU.out] at ho5
      refine ⟨some ⟨g4, 0, none⟩, c4, ?_, ?_, ?_⟩
      · rw [HR0.out, HS0.out, HLN.out, hl]; rfl
      · rw [HR0.out, HLN.out, hl, HCK.out]; exact own_mono ho5 HB2.out.size
      · exact HB2.out.trans ((HB4.out.mono HB2.out.size).grown hg5 (Nat.le_trans HB2.out.size HB4.out.size) (fun k hk => by injection hk with hk; have := HB2.out.size; omega))
  · have hcb : (checkL l != 0) = true := by simpa using hc
    have HSE := Lib.hid (show cutC l t = checkL l by unfold cutC; rw [if_pos hc])
    have HRE := Lib.hid (show cutR l t = [] by unfold cutR; rw [HSE.out, if_neg hc])
    clear hc hA hz
    generalize hce : checkL l = ce at *
    have HCE := Lib.hid hce
    clear hce
    go_enter Tryz.func32, Tryz.ntmps32
    go_wp2_with (go_at_call 28; go_loud (refine HCk.out.mono ?_; rintro e w1 ⟨he1, hb1⟩; rw [HCE.out] at he1; subst he1))
    go_ret2
    exact StateP_nil HRE.out HSE.out.symm hb1
end Go.Proofs.YtjmdebeffpdpcaaGreatDoor
