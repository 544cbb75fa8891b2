/- The bytes of a log. -/
import Derived.Test.YtahdjndpefclkaaDoorL5
namespace Go.Proofs.YtahdjndpefclkaaDoor
open Go.RowKit
open Go.Lib hiding intOf

theorem mk_add (a b : L8) : mk a ++ mk b = mk (a ++ b) := bl_inj (by rw [bl_append, bl_mk, bl_mk, bl_mk])

/-- The bytes of a log. -/
def encs (l : List Ent) : L8 := l.flatMap encL

theorem encs_len {l : List Ent} (h : ∀ (i : Nat) (e : Ent), l[i]? = some e → Ok e) : (encs l).length ≤ 160 * l.length := by
  induction l with
  | nil => simp [encs]
  | cons a t ih =>
    have ha := encL_len (h 0 a rfl)
    have ht := ih fun i e hi => h (i + 1) e (by simpa using hi)
    unfold encs at ht ⊢
    simp only [List.flatMap_cons, List.length_append, List.length_cons]
    omega

theorem encs_snoc {l : List Ent} {j : Nat} {x : Ent} (h : l[j]? = some x) : encs (l.take (j + 1)) = encs (l.take j) ++ encL x := by
  unfold encs
  rw [List.take_add_one, h]
  simp

set_option maxRecDepth 100000 in
set_option maxHeartbeats 4000000 in
theorem Bytes_any {g c : Nat} {A : Option Addr} {l : List Ent} {w : World} (h : LogA g A c l w) (hok : ∀ (i : Nat) (e : Ent), l[i]? = some e → Ok e) (hl : l.length ≤ 400) (he : Env w) :
    Calls Tryd.prog 16 #[.pointer (some ⟨g, 0, none⟩)] w fun y w' => y = .returned (.string (mk (encs l))) ∧ Below w.heap.size w w' := by
  have HE := Lib.hid he
  have HL := Lib.hid h
  have HOk := Lib.hid hok
  have cg := h.cell
  clear h hok he
  go_enter Tryd.func16, Tryd.ntmps16
  go_wp2
  go_loopw [3, 5, 6, 7, 13] (fun s _ _ _ i wr => ∃ j : Nat, j ≤ l.length ∧ i = .int .i64 (j : Int) ∧ s = .string (mk (encs (l.take j))) ∧ Below w.heap.size w wr) (fun _ _ _ _ i _ => l.length - (intOf i).toNat)
  case atStart => exact ⟨0, by omega, rfl, rfl, Below.refl _ _⟩
  case round =>
    obtain ⟨j, hj, rfl, rfl, hbr⟩ := hrel
    by_cases hlt : j < l.length
    · obtain ⟨x, hx⟩ : ∃ x, l[j]? = some x := ⟨l[j], List.getElem?_eq_getElem hlt⟩
      have ho := HOk.out j x hx
      obtain ⟨b, rfl, hgb, hbl, q0, q1, q2, q3⟩ := (HL.out.below hbr).ent hx
      have HEn := Lib.hid (fun W hW => Encode_ok x W ho hW)
      have hsn := encs_snoc hx
      have hsz := encs_len (l := l.take j) (fun i e hi => HOk.out i e (by rw [List.getElem?_take] at hi; split at hi <;> simp_all))
      rw [List.length_take] at hsz
      have hez := (encL_len ho).2
      obtain ⟨P, hP⟩ : ∃ P, encs (l.take j) = P := ⟨_, rfl⟩
      obtain ⟨E, hE⟩ : ∃ E, encL x = E := ⟨_, rfl⟩
      rw [hP] at hsn hsz ⊢
      rw [hE] at HEn hsn hez
      have hadd := mk_add P E
      have hs1 : (mk P).size ≤ 64000 := by rw [size_mk]; omega
      have hs2 : (mk E).size ≤ 160 := by rw [size_mk]; omega
      have HS := Lib.hid hsn
      obtain ⟨xn, xt, xk, xx⟩ := x
      unfold valE at HEn
      simp only at HEn q0 q1 q2 q3
      have hba : ∀ v, Below w.heap.size w (wr.alloc (.cells v 23)) := fun v => hbr.alloc hbr.size _
      have HBa := Lib.hid hba
      have hj0 : (0 : Int) ≤ (j : Int) := by omega
      have hjL : (j : Int) < (l.length : Int) := by omega
      clear hx ho hP hE hsn hsz hez hba
      go_wp2_with fail
      refine (HEn.out _ (HE.out.below (HBa.out _))).mono ?_
      rintro e w2 ⟨rfl, hb2⟩
      have B2 := bstep (HBa.out _) hb2
      go_wp2

      go_roundw
      case rel => exact ⟨j + 1, by omega, by go_num, by rw [HS.out], B2⟩
      case measure => simp [intOf]; omega
    · obtain rfl : l.length = j := by omega
      go_wp2
      go_ret
      exact ⟨by first | rfl | (rw [List.take_length]; rfl), hbr⟩
end Go.Proofs.YtahdjndpefclkaaDoor
