/- Bytes of a text, one of them changed, and back; the place of a value. -/
import Derived.Test.YtojnojjiblcmcaaDoorR4
import Derived.Lib.ConvBytes
import Derived.Laws.BytesString
import Derived.Laws.Cells
namespace Go.Proofs.YtojnojjiblcmcaaDoor
open Go.RowKit
open Go.Lib hiding intOf

theorem fold_push (B : B8) (s : ByteArray) : (B.map (fun b => (b.toNat : Int))).foldl (fun r n => r.push (UInt8.ofNat n.toNat)) s = mkB (by_ s ++ B) := by
  induction B generalizing s with
  | nil => simp only [List.map_nil, List.foldl_nil, List.append_nil]; exact by_inj (by rw [by_mkB])
  | cons b B ih =>
    rw [List.map_cons, List.foldl_cons, ih]
    refine congrArg mkB ?_
    have : UInt8.ofNat (Int.toNat (b.toNat : Int)) = b := by simp
    rw [this]
    show (s.push b).data.toList ++ B = _
    simp [ByteArray.push, by_]

/-- The text of a row of bytes. -/
theorem conv_back (w : World) (g cap : Nat) (B : B8) (h : ∀ k b, B[k]? = some b → w.cell? ⟨g, k, none⟩ = some (.int .u8 (b.toNat : Int))) :
    (convert 40 9 (.slice (some ⟨g, 0, none⟩) B.length cap)).run Tryd.prog w = .ok (.string (mkB B)) w := by
  rw [run_convert_bytes_string w 40 9 5 _ _ _ Tryd.underlying40 Tryd.underlying5 Tryd.underlying9]
  have hl := run_loadCells_list (P := Tryd.prog) (w := w) ⟨g, 0, none⟩ (B.map fun b => Value.int .u8 (b.toNat : Int)) (fun j v hj => by
    rw [List.getElem?_map] at hj
    cases hb : B[j]? with
    | none => rw [hb] at hj; cases hj
    | some b =>
      rw [hb] at hj
      cases hj
      have := h j b hb
      by_cases hz : j = 0
      · subst hz; simpa [Addr.add] using this
      · simpa [Addr.add, hz] using this)
  rw [List.length_map] at hl
  rw [run_bytesToString w _ B.length cap (B.map fun b => (b.toNat : Int)) (by rw [hl, List.map_map]; rfl)]
  rw [fold_push]
  rfl

/-- The cells behind the changed byte. -/
theorem changed_cells {W : World} {g p : Nat} {B : B8} (hp : p < B.length) (hc : ∀ k b, B[k]? = some b → W.cell? ⟨g, k, none⟩ = some (.int .u8 (b.toNat : Int))) (v : UInt8) (k : Nat) (b : UInt8) (hk : (B.set p v)[k]? = some b) :
    (W.setCell ⟨g, p, none⟩ (.int .u8 (v.toNat : Int))).cell? ⟨g, k, none⟩ = some (.int .u8 (b.toNat : Int)) := by
  by_cases h : p = k
  · subst h
    rw [List.getElem?_set_self hp] at hk
    cases hk
    rw [World.cell?_setCell_same' _ _ _ (by rw [hc p B[p] (List.getElem?_eq_getElem hp)]; rfl)]
  · rw [List.getElem?_set_ne h] at hk
    have hne : (⟨g, p, none⟩ : Addr) ≠ ⟨g, k, none⟩ := by intro x; injection x with _ x _; exact h x
    rw [World.cell?_setCell_other _ _ _ _ hne]
    exact hc k b hk

theorem indexByte_nl : ∀ (a r : B8), (∀ b ∈ a, b ≠ 10) → indexByte (a ++ 10 :: r) 10 = (a.length : Int)
  | [], r, _ => by simp [indexByte]
  | b :: a, r, h => by
    have hb : (b == 10) = false := by rw [beq_eq_false_iff_ne]; exact h b (by simp)
    have ih := indexByte_nl a r (fun x hx => h x (by simp [hx]))
    rw [List.cons_append, indexByte, hb, ih]
    have h2 : ((a.length : Int) == -1) = false := by rw [beq_eq_false_iff_ne]; omega
    rw [h2, List.length_cons]
    simp

theorem place_lt {l : List Rw} {k : Nat} (hk : k < l.length) {o : Nat} (ho : o < (l[k]!).2.size) : (linesB (l.take k)).size + ((l[k]!).1.size + 1 + o) < (linesB l).size := by
  have e : linesB l = linesB (l.take k) ++ linesB (l.drop k) := by rw [← linesB_append, List.take_append_drop]
  have e2 : linesB (l.drop k) = lnB l[k]! ++ linesB (l.drop (k + 1)) := by
    rw [List.drop_eq_getElem_cons hk, linesB, getElem!_pos l k hk]
  rw [e, e2, ByteArray.size_append, ByteArray.size_append, lnB_size]
  omega

theorem text_len (l : List Rw) : (textB l).size = (hb (digN l)).length + 1 + (linesB l).size := by
  rw [← size_by, by_text2, List.length_append, List.length_cons, size_by]; omega
theorem text_set (l : List Rw) (q : Nat) (v : UInt8) : (by_ (textB l)).set ((hb (digN l)).length + 1 + q) v = hb (digN l) ++ 10 :: (by_ (linesB l)).set q v := by
  rw [by_text2, List.set_append_right _ _ (by omega), show (hb (digN l)).length + 1 + q - (hb (digN l)).length = q + 1 by omega, List.set_cons_succ]
theorem text_at (l : List Rw) (q : Nat) : (by_ (textB l))[(hb (digN l)).length + 1 + q]? = (by_ (linesB l))[q]? := by
  rw [by_text2, List.getElem?_append_right (by omega), show (hb (digN l)).length + 1 + q - (hb (digN l)).length = q + 1 by omega, List.getElem?_cons_succ]

theorem spoilt_read {l : List Rw} (h : Fine l) {q : Nat} {b v : UInt8} (hb0 : (by_ (textB l))[(hb (digN l)).length + 1 + q]? = some b) :
    (v = b → readL (mkB ((by_ (textB l)).set ((hb (digN l)).length + 1 + q) v)) = (l, 0)) ∧ (v ≠ b → (readL (mkB ((by_ (textB l)).set ((hb (digN l)).length + 1 + q) v))).2 ≠ 0) := by
  constructor
  · rintro rfl
    have : (by_ (textB l)).set ((hb (digN l)).length + 1 + q) v = by_ (textB l) := by
      obtain ⟨h1, h2⟩ := List.getElem?_eq_some_iff.1 hb0
      rw [← h2]; exact List.set_getElem_self h1
    rw [this, mkB_by]
    exact read_text h (textB_size h)
  · intro hne
    rw [text_at] at hb0
    exact spoilt h hb0 (Ne.symm hne) (by rw [by_mkB, text_set])
end Go.Proofs.YtojnojjiblcmcaaDoor
