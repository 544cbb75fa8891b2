/- Decode of whatever text; recordFact; the walk of RecordCut. -/
import Derived.Test.YtahdjndpefclkaaDoorA6
import Derived.Test.YtahdjndpefclkaaDoorCut
namespace Go.Proofs.YtahdjndpefclkaaDoor
open Go.RowKit
open Go.Lib hiding intOf

/-- What Decode hands back, whatever it is given. -/
def DecAll (s : ByteArray) (w : World) (x : Ending) (w' : World) : Prop :=
  (∃ e r, Ok e ∧ bl s = encL e ++ r ∧ DecR e ((s.size : Int) - (r.length : Int)) 0 w x w') ∨
  (∃ c, c ≠ 0 ∧ (∀ e r, Ok e → bl s ≠ encL e ++ r) ∧ DecR zeroE 0 c w x w')

theorem Decode_any (s : ByteArray) (w : World) (hs : s.size ≤ maxLen) (he : Env w) : Calls Tryd.prog 11 #[.string s] w (DecAll s w) := by
  by_cases h : ∃ e m r, Forms (bl s) e m r
  · obtain ⟨e, m, r, hf⟩ := h
    refine (Decode_yes s e m r w hf hs he).mono fun x w' hx => ?_
    by_cases hm : m = sumL (preL e)
    · rw [if_pos hm] at hx
      subst hm
      exact .inl ⟨e, r, hf.1, forms_of_sum hf, hx⟩
    · rw [if_neg hm] at hx
      refine .inr ⟨13, by decide, fun e' r' ho h' => hm ?_, hx⟩
      have h2 := forms_enc ho r'
      rw [← h'] at h2
      obtain ⟨a, b, _⟩ := forms_uniq hf h2
      rw [b, a]
  · refine (Decode_no s w (fun e m r hf => h ⟨e, m, r, hf⟩) hs he).mono fun x w' hx => .inr ⟨5, by decide, fun e r ho h' => h ⟨e, sumL (preL e), r, h' ▸ forms_enc ho r⟩, hx⟩

theorem Decode_enc (e : Ent) (r : L8) (s : ByteArray) (w : World) (ho : Ok e) (hb : bl s = encL e ++ r) (hs : s.size ≤ maxLen) (he : Env w) :
    Calls Tryd.prog 11 #[.string s] w fun x w' => x = .returned (.tuple #[valE e, .int .i64 ((encL e).length : Int), .int .i64 0]) ∧ Below w.heap.size w w' := by
  have hf := forms_enc ho r
  rw [← hb] at hf
  have h := Decode_yes s e _ r w hf hs he
  rw [if_pos rfl] at h
  refine h.mono fun x w' hx => ⟨?_, hx.2⟩
  rw [hx.1]
  have : (s.size : Int) - (r.length : Int) = ((encL e).length : Int) := by rw [← size_bl, hb, List.length_append]; omega
  rw [this]

def E0 : Ent := ⟨1, 5, ⟨#[115, 101, 116]⟩, ⟨#[97, 32, 98]⟩⟩
theorem E0_ok : Ok E0 := ⟨by decide, by decide, by decide, by decide, by decide, by decide, by decide, by decide⟩

set_option maxRecDepth 100000 in
set_option maxHeartbeats 1000000 in
theorem fact_any (w : World) (he : Env w) : Calls Tryd.prog 9 #[] w fun x w' => x = .returned (.bool true) ∧ Below w.heap.size w w' := by
  obtain ⟨L, hL⟩ : ∃ L, encL E0 = L := ⟨_, rfl⟩
  have hl := encL_len E0_ok
  have HEn := Lib.hid (Encode_ok E0 w E0_ok he)
  have HDe := Lib.hid (fun (W : World) (hW : Env W) => Decode_enc E0 [] (mk (encL E0)) W E0_ok (by rw [bl_mk, List.append_nil]) (by rw [size_mk]; unfold maxLen; omega) hW)
  have hsz := size_mk (encL E0)
  obtain ⟨S, hS⟩ : ∃ S, mk (encL E0) = S := ⟨_, rfl⟩
  rw [hS] at HEn HDe hsz
  rw [← hsz] at HDe hl
  unfold valE E0 at HEn HDe
  simp only at HEn HDe
  have HE := Lib.hid he
  obtain ⟨hl1, hl2⟩ := hl
  clear he hL hS hsz
  go_enter Tryd.func9, Tryd.ntmps9
  go_wp2_with (first
    | (go_at_call 10; refine HEn.out.mono ?_; rintro e w1 ⟨rfl, hb1⟩)
    | (go_at_call 11; refine (HDe.out _ (HE.out.below hb1)).mono ?_; rintro e w2 ⟨rfl, hb2⟩))
  go_ret
  exact ⟨rfl, (bstep hb1 hb2).alloc (bstep hb1 hb2).size _⟩

set_option maxRecDepth 100000 in
set_option maxHeartbeats 1000000 in
theorem Cut_walk (x : Ent) (n : Int) (w : World) (hx : Wf x) (he : Env w) : Calls Tryd.prog 3 #[valE x, .int .i64 n] w fun y w' => y = .returned (.bool true) ∧ Below w.heap.size w w' := by
  have HE := Lib.hid he
  have HFa := Lib.hid (fun W (hW : Env W) => fact_any W hW)
  have hB0 : ∀ v, Below w.heap.size w (w.alloc (.cells v 23)) := fun v => (Below.refl _ w).alloc (Nat.le_refl _) _
  have HB0 := Lib.hid hB0
  clear hB0 he
  by_cases hc : chk x = 0
  · have ho := chk_ok.1 hc
    have hl := encL_len ho
    have HEn := Lib.hid (fun W (hW : Env W) => Encode_ok x W ho hW)
    obtain ⟨L, hL⟩ : ∃ L, encL x = L := ⟨_, rfl⟩
    have hsz := size_mk L
    have hblm := bl_mk L
    obtain ⟨o, hoo⟩ : ∃ o : Nat, cutI n 0 ((L.length : Int) - 1) = (o : Int) := ⟨(cutI n 0 ((L.length : Int) - 1)).toNat, by have := cutI_bd (n := n) (lo := 0) (hi := (L.length : Int) - 1) (by rw [hL] at hl; omega); omega⟩
    have hol : o < L.length := by have := cutI_bd (n := n) (lo := 0) (hi := (L.length : Int) - 1) (by rw [hL] at hl; omega); omega
    have HDe := Lib.hid (fun (W : World) (hW : Env W) => Decode_no (mk (L.take o)) W (fun e' m r => by
      rw [bl_mk]
      exact forms_prefix ho (t := L.drop o) (by rw [hL]; exact List.take_append_drop _ _) (by intro h; have := congrArg List.length h; simp at this; omega) e' m r) (by rw [size_mk, List.length_take]; unfold maxLen; rw [hL] at hl; omega) hW)
    have hsl := fun W => slice_str (mk L) o (by rw [hsz]; omega) (by rw [hsz]; unfold maxLen; rw [hL] at hl; omega) W
    rw [hL] at HEn hl
    rw [hblm] at hsl
    obtain ⟨S, hS⟩ : ∃ S, mk L = S := ⟨_, rfl⟩
    obtain ⟨S2, hS2⟩ : ∃ S, mk (L.take o) = S := ⟨_, rfl⟩
    rw [hS] at HEn hsl hsz
    rw [hS2] at HDe hsl
    rw [← hsz] at hoo hl
    have HC := Lib.hid hoo
    obtain ⟨nn, tt, kk, xx⟩ := x
    unfold valE at HEn ⊢
    simp only at HEn ⊢
    clear hc ho hL hblm hoo hol hS hS2 hsz
    obtain ⟨hl1, hl2⟩ := hl
    unfold DecR valE zeroE at HDe
    go_enter Tryd.func3, Tryd.ntmps3
    go_wp2_with fail
    refine (HFa.out _ (HE.out.below (HB0.out _))).mono ?_
    rintro e w1 ⟨rfl, hb1⟩
    have B1 := bstep (HB0.out _) hb1
    obtain ⟨c1, f1⟩ := bcell hb1
    go_wp2_with fail
    refine (HEn.out _ (HE.out.below B1)).mono ?_
    rintro e w2 ⟨rfl, hb2⟩
    have B2 := bstep B1 hb2
    go_wp2_with (first
      | (go_at_call 12; refine (Cut_any _ _ _ _ (by omega) (by omega) (by omega)).mono ?_; rintro e w3 ⟨rfl, rfl⟩; rw [HC.out])
      | (go_at_call 11; refine (HDe.out _ (HE.out.below B2)).mono ?_; rintro e w4 ⟨rfl, hb4⟩))
    go_ret
    exact ⟨rfl, (bstep B2 hb4).alloc (bstep B2 hb4).size _⟩
  · have HEn := Lib.hid (fun W => Encode_no x W hx hc)
    obtain ⟨c, hcc⟩ : ∃ c, chk x = c := ⟨_, rfl⟩
    rw [hcc] at HEn hc
    have d1 : (c == 0) = false := by simp [hc]
    have d2 : (c != 0) = true := by simp [hc]
    obtain ⟨nn, tt, kk, xx⟩ := x
    unfold valE at HEn ⊢
    simp only at HEn ⊢
    clear hc hcc
    go_enter Tryd.func3, Tryd.ntmps3
    go_wp2_with fail
    refine (HFa.out _ (HE.out.below (HB0.out _))).mono ?_
    rintro e w1 ⟨rfl, hb1⟩
    have B1 := bstep (HB0.out _) hb1
    obtain ⟨c1, f1⟩ := bcell hb1
    go_wp2_with fail
    refine (HEn.out _).mono ?_
    rintro e w2 ⟨rfl, hb2⟩
    have B2 := bstep B1 hb2
    go_wp2
    go_ret
    exact ⟨rfl, B2⟩
end Go.Proofs.YtahdjndpefclkaaDoor
