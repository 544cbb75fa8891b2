/- Entries are compared; the walk of RecordBack. -/
import Derived.Test.YtbbklfjgojjlhaaGreatDoorA6
import Derived.Test.YtbbklfjgojjlhaaGreatDoorCut
import Derived.Laws.StructEq
namespace Go.Proofs.YtbbklfjgojjlhaaGreatDoor
open Go.RowKit
open Go.Lib hiding intOf

/-- What Decode hands back, whatever it is given. -/
def DecAll (s : ByteArray) (w : World) (x : Ending) (w' : World) : Prop :=
  (∃ e r, Ok e ∧ bl s = encL e ++ r ∧ DecR e ((s.size : Int) - (r.length : Int)) 0 w x w') ∨
  (∃ c, c ≠ 0 ∧ (∀ e r, Ok e → bl s ≠ encL e ++ r) ∧ DecR zeroE 0 c w x w')

theorem Decode_any (s : ByteArray) (w : World) (hs : s.size ≤ maxLen) (he : Env w) : Calls Tryz.prog 17 #[.string s] w (DecAll s w) := by
  by_cases h : ∃ e m r, Forms (bl s) e m r
  · obtain ⟨e, m, r, hf⟩ := h
    refine (Decode_yes s e m r w hf hs he).mono fun x w' hx => ?_
    by_cases hm : m = sumL (preL e)
    · rw [if_pos hm] at hx
      subst hm
      exact .inl ⟨e, r, hf.1, forms_of_sum hf, hx⟩
    · rw [if_neg hm] at hx
      refine .inr ⟨13, by decide, fun e' r' ho h' => hm ?_, hx⟩
      have h2 := forms_enc ho r'
      rw [← h'] at h2
      obtain ⟨a, b, _⟩ := forms_uniq hf h2
      rw [b, a]
  · refine (Decode_no s w (fun e m r hf => h ⟨e, m, r, hf⟩) hs he).mono fun x w' hx => .inr ⟨5, by decide, fun e r ho h' => h ⟨e, sumL (preL e), r, h' ▸ forms_enc ho r⟩, hx⟩

theorem Decode_enc (e : Ent) (r : L8) (s : ByteArray) (w : World) (ho : Ok e) (hb : bl s = encL e ++ r) (hs : s.size ≤ maxLen) (he : Env w) :
    Calls Tryz.prog 17 #[.string s] w fun x w' => x = .returned (.tuple #[valE e, .int .i64 ((encL e).length : Int), .int .i64 0]) ∧ Below w.heap.size w w' := by
  have hf := forms_enc ho r
  rw [← hb] at hf
  have h := Decode_yes s e _ r w hf hs he
  rw [if_pos rfl] at h
  refine h.mono fun x w' hx => ⟨?_, hx.2⟩
  rw [hx.1]
  have : (s.size : Int) - (r.length : Int) = ((encL e).length : Int) := by rw [← size_bl, hb, List.length_append]; omega
  rw [this]

def E0 : Ent := ⟨1, 5, ⟨#[115, 101, 116]⟩, ⟨#[97, 32, 98]⟩⟩
theorem E0_ok : Ok E0 := ⟨by decide, by decide, by decide, by decide, by decide, by decide, by decide, by decide⟩

set_option maxRecDepth 100000 in
set_option maxHeartbeats 1000000 in
theorem factRec_any (w : World) (he : Env w) : Calls Tryz.prog 5 #[] w fun x w' => x = .returned (.bool true) ∧ Below w.heap.size w w' := by
  obtain ⟨L, hL⟩ : ∃ L, encL E0 = L := ⟨_, rfl⟩
  have hl := encL_len E0_ok
  have HEn := Lib.hid (Encode_ok E0 w E0_ok he)
  have HDe := Lib.hid (fun (W : World) (hW : Env W) => Decode_enc E0 [] (mk (encL E0)) W E0_ok (by rw [bl_mk, List.append_nil]) (by rw [size_mk]; unfold maxLen; omega) hW)
  have hsz := size_mk (encL E0)
  obtain ⟨S, hS⟩ : ∃ S, mk (encL E0) = S := ⟨_, rfl⟩
  rw [hS] at HEn HDe hsz
  rw [← hsz] at HDe hl
  unfold valE E0 at HEn HDe
  simp only at HEn HDe
  have HE := Lib.hid he
  obtain ⟨hl1, hl2⟩ := hl
  clear he hL hS hsz
  go_enter Tryz.func5, Tryz.ntmps5
  go_wp2_with (first
    | (go_at_call 16; refine HEn.out.mono ?_; rintro e w1 ⟨rfl, hb1⟩)
    | (go_at_call 17; refine (HDe.out _ (HE.out.below hb1)).mono ?_; rintro e w2 ⟨rfl, hb2⟩))
  go_ret
  exact ⟨rfl, (bstep hb1 hb2).alloc (bstep hb1 hb2).size _⟩

end Go.Proofs.YtbbklfjgojjlhaaGreatDoor

namespace Go.Proofs.YtbbklfjgojjlhaaGreatDoor
open Go.RowKit
open Go.Lib hiding intOf

def eqE (x y : Ent) : Bool := x.num == y.num && (x.time == y.time && (x.kind.toList == y.kind.toList && x.text.toList == y.text.toList))
theorem eqE_refl (x : Ent) : eqE x x = true := by simp [eqE]
theorem eqE_iff {x y : Ent} : eqE x y = true ↔ x = y := by
  constructor
  · intro h
    unfold eqE at h
    simp only [Bool.and_eq_true, beq_iff_eq] at h
    obtain ⟨h1, h2, h3, h4⟩ := h
    rw [ByteArray.toList_eq, ByteArray.toList_eq] at h3 h4
    cases x; cases y
    simp only at h1 h2 h3 h4
    rw [h1, h2, bl_inj h3, bl_inj h4]
  · rintro rfl; exact eqE_refl x

set_option maxRecDepth 100000 in
theorem run_eqE (x y : Ent) (w : World) : (Op.equalIn 10000 38 (valE x) (valE y)).run Tryz.prog w = .ok (eqE x y) w := by
  have u9 := Tryz.underlying9
  have a9 := Tryz.isAgg9
  have z9 := Tryz.sizeOf9
  have u3 := Tryz.underlying3
  have a3 := Tryz.isAgg3
  have z3 := Tryz.sizeOf3
  have hS : Tryz.prog.underlying 38 = some (.struct (Tryz.prog.fieldsOf 38)) := by kernel_rfl
  have hp : Tryz.prog.stoodInHeld 38 = false := by kernel_rfl
  obtain ⟨n, t, k, z⟩ := x
  obtain ⟨n', t', k', z'⟩ := y
  simp only [valE, eqE]
  rw [show (10000 : Nat) = 9999 + 1 from rfl, run_equalIn_agg w 9999 38 _ _ hS hp]
  simp only [Program.fieldsOf, Tryz.underlying38]
  go_simp
  by_cases h1 : n = n' <;> by_cases h2 : t = t' <;> by_cases h3 : k.toList = k'.toList <;> by_cases h4 : z.toList = z'.toList <;> simp [h1, h2, h3, h4]

end Go.Proofs.YtbbklfjgojjlhaaGreatDoor
