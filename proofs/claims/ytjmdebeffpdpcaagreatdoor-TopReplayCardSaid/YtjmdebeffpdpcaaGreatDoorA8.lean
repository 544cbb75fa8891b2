/- Entries are compared; the walk of RecordBack. -/
import Derived.Test.YtjmdebeffpdpcaaGreatDoorA6
import Derived.Test.YtjmdebeffpdpcaaGreatDoorCut
import Derived.Laws.StructEq
namespace Go.Proofs.YtjmdebeffpdpcaaGreatDoor
open Go.RowKit
open Go.Lib hiding intOf

/-- What Decode hands back, whatever it is given. -/
def DecAll (s : ByteArray) (w : World) (x : Ending) (w' : World) : Prop :=
  (∃ e r, Ok e ∧ bl s = encL e ++ r ∧ DecR e ((s.size : Int) - (r.length : Int)) 0 w x w') ∨
  (∃ c, c ≠ 0 ∧ (∀ e r, Ok e → bl s ≠ encL e ++ r) ∧ DecR zeroE 0 c w x w')

theorem Decode_any (s : ByteArray) (w : World) (hs : s.size ≤ maxLen) (he : Env w) : Calls Tryz.prog 20 #[.string s] w (DecAll s w) := by
  by_cases h : ∃ e m r, Forms (bl s) e m r
  · obtain ⟨e, m, r, hf⟩ := h
    refine (Decode_yes s e m r w hf hs he).mono fun x w' hx => ?_
    by_cases hm : m = sumL (preL e)
    · rw [if_pos hm] at hx
      subst hm
      exact .inl ⟨e, r, hf.1, forms_of_sum hf, hx⟩
    · rw [if_neg hm] at hx
      refine .inr ⟨13, by decide, fun e' r' ho h' => hm ?_, hx⟩
      have h2 := forms_enc ho r'
      rw [← h'] at h2
      obtain ⟨a, b, _⟩ := forms_uniq hf h2
      rw [b, a]
  · refine (Decode_no s w (fun e m r hf => h ⟨e, m, r, hf⟩) hs he).mono fun x w' hx => .inr ⟨5, by decide, fun e r ho h' => h ⟨e, sumL (preL e), r, h' ▸ forms_enc ho r⟩, hx⟩

theorem Decode_enc (e : Ent) (r : L8) (s : ByteArray) (w : World) (ho : Ok e) (hb : bl s = encL e ++ r) (hs : s.size ≤ maxLen) (he : Env w) :
    Calls Tryz.prog 20 #[.string s] w fun x w' => x = .returned (.tuple #[valE e, .int .i64 ((encL e).length : Int), .int .i64 0]) ∧ Below w.heap.size w w' := by
  have hf := forms_enc ho r
  rw [← hb] at hf
  have h := Decode_yes s e _ r w hf hs he
  rw [if_pos rfl] at h
  refine h.mono fun x w' hx => ⟨?_, hx.2⟩
  rw [hx.1]
  have : (s.size : Int) - (r.length : Int) = ((encL e).length : Int) := by rw [← size_bl, hb, List.length_append]; omega
  rw [this]

def E0 : Ent := ⟨1, 5, ⟨#[115, 101, 116]⟩, ⟨#[97, 32, 98]⟩⟩
theorem E0_ok : Ok E0 := ⟨by decide, by decide, by decide, by decide, by decide, by decide, by decide, by decide⟩

end Go.Proofs.YtjmdebeffpdpcaaGreatDoor

namespace Go.Proofs.YtjmdebeffpdpcaaGreatDoor
open Go.RowKit
open Go.Lib hiding intOf

def eqE (x y : Ent) : Bool := x.num == y.num && (x.time == y.time && (x.kind.toList == y.kind.toList && x.text.toList == y.text.toList))
theorem eqE_refl (x : Ent) : eqE x x = true := by simp [eqE]
theorem eqE_iff {x y : Ent} : eqE x y = true ↔ x = y := by
  constructor
  · intro h
    unfold eqE at h
    simp only [Bool.and_eq_true, beq_iff_eq] at h
    obtain ⟨h1, h2, h3, h4⟩ := h
    rw [ByteArray.toList_eq, ByteArray.toList_eq] at h3 h4
    cases x; cases y
    simp only at h1 h2 h3 h4
    rw [h1, h2, bl_inj h3, bl_inj h4]
  · rintro rfl; exact eqE_refl x

end Go.Proofs.YtjmdebeffpdpcaaGreatDoor
