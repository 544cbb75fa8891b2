/- Bytes of a text, one of them changed, and back. -/
import Derived.Test.YtahdjndpefclkaaDoorP5
import Derived.Lib.ConvBytes
import Derived.Laws.BytesString
import Derived.Laws.Cells
namespace Go.Proofs.YtahdjndpefclkaaDoor
open Go.RowKit
open Go.Lib hiding intOf

theorem fold_push (B : L8) (s : ByteArray) : (B.map (fun b => (b.toNat : Int))).foldl (fun r n => r.push (UInt8.ofNat n.toNat)) s = mk (bl s ++ B) := by
  induction B generalizing s with
  | nil => simp only [List.map_nil, List.foldl_nil, List.append_nil]; exact bl_inj (by rw [bl_mk])
  | cons b B ih =>
    rw [List.map_cons, List.foldl_cons, ih]
    refine congrArg mk ?_
    have : UInt8.ofNat (Int.toNat (b.toNat : Int)) = b := by simp
    rw [this]
    show (s.push b).data.toList ++ B = _
    simp [ByteArray.push, bl]

/-- The text of a row of bytes. -/
theorem conv_back (w : World) (g cap : Nat) (B : L8) (h : ∀ k b, B[k]? = some b → w.cell? ⟨g, k, none⟩ = some (.int .u8 (b.toNat : Int))) :
    (convert 46 9 (.slice (some ⟨g, 0, none⟩) B.length cap)).run Tryd.prog w = .ok (.string (mk B)) w := by
  rw [run_convert_bytes_string w 46 9 5 _ _ _ Tryd.underlying46 Tryd.underlying5 Tryd.underlying9]
  have hl := run_loadCells_list (P := Tryd.prog) (w := w) ⟨g, 0, none⟩ (B.map fun b => Value.int .u8 (b.toNat : Int)) (fun j v hj => by
    rw [List.getElem?_map] at hj
    cases hb : B[j]? with
    | none => rw [hb] at hj; cases hj
    | some b =>
      rw [hb] at hj
      cases hj
      have := h j b hb
      by_cases hz : j = 0
      · subst hz; simpa [Addr.add] using this
      · simpa [Addr.add, hz] using this)
  rw [List.length_map] at hl
  rw [run_bytesToString w _ B.length cap (B.map fun b => (b.toNat : Int)) (by rw [hl, List.map_map]; rfl)]
  rw [fold_push]
  rfl
end Go.Proofs.YtahdjndpefclkaaDoor
