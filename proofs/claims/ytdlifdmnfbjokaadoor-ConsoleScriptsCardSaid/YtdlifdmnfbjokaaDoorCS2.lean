/- Package console: Script, where a line is no command; too long a text; none. -/
import Derived.Test.YtdlifdmnfbjokaaDoorCS1
namespace Go.Proofs.YtdlifdmnfbjokaaDoor
open Go.RowKit
open Go.Lib hiding intOf

set_option maxRecDepth 100000 in
set_option maxHeartbeats 8000000 in
theorem Script_err (t : ByteArray) (w : World) (hs : t.size ≤ 8192) (ht : t ≠ .empty) (he : Env w) (k : Nat) (q : Int) (hkl : k < (linesOf t).length) (hq : (parseC (linesOf t)[k]!).2 = q) (hq0 : q ≠ 0) (hall : ∀ i, i < k → (parseC (linesOf t)[i]!).2 = 0) :
    Calls Tryd.prog 9 #[.string t] w fun e w' => e = .returned (.tuple #[.slice none 0 0, .int .i64 (k : Int), .int .i64 q]) ∧ Below w.heap.size w w' := by
  have hlt := lines_trim ht
  obtain ⟨u, hu⟩ : ∃ u, trimB t = u := ⟨_, rfl⟩
  have hus := trim_size t
  rw [hu] at hlt hus
  have HT := Lib.hid (fun W => by have := Trim_any t W hs; rw [hu] at this; exact this)
  have hS0 := Split_any u nl w rfl (by omega) he
  have hS1 : splitB nl 0 (countB u nl) u = linesOf t := hlt
  rw [hS1] at hS0
  have hmx : ∀ x ∈ linesOf t, x.size ≤ 8192 := fun x hx => Nat.le_trans (lines_of_size hx) hs
  have hlen : (linesOf t).length ≤ 8193 := by
    have h1 := dropE_le (linesB t); have h2 := lines_len_le t; unfold linesOf; omega
  obtain ⟨L, hL⟩ : ∃ L, linesOf t = L := ⟨_, rfl⟩
  rw [hL] at hS0 hall hmx hlen hkl hq
  obtain ⟨N, hN⟩ : ∃ N, L.length = N := ⟨_, rfl⟩
  rw [hN] at hS0 hlen hkl
  have HS := Lib.hid hS0
  have HL := Lib.hid hN
  have HLn := Lib.hid (LnAt.start L w)
  have HE := Lib.hid he
  have HP := Lib.hid (fun (W : World) (j : Nat) (hj : j < k) (hb : Below w.heap.size w W) => (Parse_any L[j]! W (by have := hmx L[j]! (by rw [getElem!_pos L j (by omega)]; exact List.getElem_mem _); omega) (he.below hb)).mono fun e W2 h => (show e = .returned (.tuple #[.agg #[.string (parseC L[j]!).1.verb, .string (parseC L[j]!).1.call, .int .i64 (parseC L[j]!).1.n, .string (parseC L[j]!).1.fix], .int .i64 0]) ∧ Below W.heap.size W W2 from ⟨by rw [h.1, hall j hj]; rfl, h.2⟩))
  have HPk := Lib.hid (fun (W : World) (hb : Below w.heap.size w W) => (Parse_any L[k]! W (by have := hmx L[k]! (by rw [getElem!_pos L k (by omega)]; exact List.getElem_mem _); omega) (he.below hb)).mono fun e W2 h => (show e = .returned (.tuple #[.agg #[.string (parseC L[k]!).1.verb, .string (parseC L[k]!).1.call, .int .i64 (parseC L[k]!).1.n, .string (parseC L[k]!).1.fix], .int .i64 q]) ∧ Below W.heap.size W W2 from ⟨by rw [h.1, hq]; rfl, h.2⟩))
  have q1 : (q != 0) = true := by simpa using hq0
  have q2 : (q == 0) = false := by simpa using hq0
  obtain ⟨i23, E0, E1, E2, E3⟩ := info_parts cm_info
  have b1 : decide ((8192 : Int) < (t.size : Int)) = false := decide_eq_false (by omega)
  have b2 : t.toList.isEmpty = false := by rw [ByteArray.toList_eq]; exact not_empty ht
  clear hS0 hS1 hN he hlt hu hus hL hall hmx ht hs hq hq0
  obtain ⟨W1, hW1⟩ : ∃ W1, w.alloc (.cells (L.map Value.string).toArray 9) = W1 := ⟨_, rfl⟩
  rw [hW1] at HS HLn
  have hz1 : W1.heap.size = w.heap.size + 1 := by rw [← hW1]; exact size_al _ _
  have HB1 : Hid (Below w.heap.size w W1) := Lib.hid (by rw [← hW1]; exact (Below.refl _ w).alloc (Nat.le_refl _) _)
  have HZ := Lib.hid hz1
  have hn0 : (0 : Int) ≤ (N : Int) := by omega
  clear hW1 hz1
  go_enter Tryd.func9, Tryd.ntmps9
  go_wp2_with (first
    | (go_at_call 17; go_loud (refine (HT.out _).mono ?_; rintro e w1 ⟨rfl, rfl⟩))
    | (go_at_call 10; go_loud (refine HS.out.mono ?_; rintro e w2 ⟨rfl, rfl⟩)))
  go_loopw [5, 19] (fun v i wr => ∃ (j : Nat) (V : Option Addr) (cv : Nat), j ≤ k ∧ i = .int .i64 (j : Int) ∧ v = .slice V j cv ∧ Hid (wr.ownsRow (w.heap.size + 1) 23 4 (.slice V j cv) j (rowsV cmE (pcs (L.take j)))) ∧ Hid (Below (w.heap.size + 1) w2 wr)) (fun _ i _ => k - (intOf i).toNat)
  case atStart => exact ⟨0, none, 0, by omega, rfl, rfl, Lib.hid (World.ownsRow_nil _ _ _ _), Lib.hid (Below.refl _ _)⟩
  case round =>
    obtain ⟨j, V, cv, hj, rfl, rfl, HO, HB⟩ := hrel
    have hzr : w.heap.size + 1 ≤ wr.heap.size := by have := HB.out.size; have := HZ.out; omega
    have HBW : Hid (Below w.heap.size w wr) := Lib.hid (HB1.out.trans (HB.out.mono (by omega)))
    by_cases hlt : j < k
    · have d0 : wr.cell? ⟨w.heap.size, j, none⟩ = some (.string L[j]!) := (HLn.out.below HB.out (by omega)) j (by rw [HL.out]; omega)
      have HSn := Lib.hid (pcs_snoc (l := L) (j := j) (by rw [HL.out]; omega))
      have HPj := Lib.hid (HP.out wr j hlt HBW.out)
      have l1 : (j : Int) < (N : Int) := by omega
      have l0 : (0 : Int) ≤ (j : Int) := by omega
      generalize L[j]! = x at *
      obtain ⟨c, hc⟩ : ∃ c, (parseC x).1 = c := ⟨_, rfl⟩
      rw [hc] at HSn HPj
      have HVs := Lib.hid (rowsV_snoc cmE (pcs (L.take j)) c)
      unfold cmE at HVs
      obtain ⟨xv, xc, xn, xf⟩ := c
      have HVs2 : Hid (rowsV cmE (pcs (L.take (j + 1))) = rowsV cmE (pcs (L.take j)) ++ [.string xv, .string xc, .int .i64 xn, .string xf]) := Lib.hid (by rw [HSn.out]; exact HVs.out)
      clear hc HVs HSn
      go_wp2_with (first
        | (go_at_call 6; go_loud (refine HPj.out.mono ?_; rintro e w6 ⟨rfl, hb6⟩; have HO6 := Lib.hid (own_below HO.out hb6 (Nat.le_refl _)); have z6 := hb6.size; have HB6 := Lib.hid (HB.out.trans (hb6.mono (by omega)))))
        | (at_builtin; go_loud (refine wpList_append_oneN (w6.alloc (.cells #[.string xv, .string xc, .int .i64 xn, .string xf] 23)) (w6.heap.size + 1) (by simp) #[.string xv, .string xc, .int .i64 xn, .string xf] rfl (.tmp 33) (.tmp 35) 32 rfl (w.heap.size + 1) 23 i23 (.agg #[.string ByteArray.empty, .string ByteArray.empty, .int .i64 0, .string ByteArray.empty]) 4 56 Tryd.underlying32 E0 E1 E2 E3 rfl (by decide) (.slice V j cv) j _ rfl (HO6.out.alloc _) rfl rfl (by simp [Value.oneCell']) (by omega) (by decide) (by simp; omega) ?_); intro g3 cap3 w7 hv7 hg7 hat7 hlt7))
      go_roundw
      case rel =>
        refine ⟨j + 1, some ⟨g3, 0, none⟩, cap3, by omega, by go_num, rfl, ?_, ?_⟩
        · rw [HVs2.out]; exact Lib.hid hv7
        · exact Lib.hid (below_app (HB6.out.alloc (by omega) _) (by simp; omega) (HO6.out.alloc _) (Nat.le_refl _) hg7)
      case measure => simp [intOf]; omega
    · obtain rfl : k = j := by omega
      have d0 : wr.cell? ⟨w.heap.size, k, none⟩ = some (.string L[k]!) := (HLn.out.below HB.out (by omega)) k (by rw [HL.out]; omega)
      have HPj := Lib.hid (HPk.out wr HBW.out)
      have l1 : (k : Int) < (N : Int) := by omega
      have l0 : (0 : Int) ≤ (k : Int) := by omega
      generalize L[k]! = x at *
      obtain ⟨⟨xv, xc, xn, xf⟩, hc⟩ : ∃ c, (parseC x).1 = c := ⟨_, rfl⟩
      rw [hc] at HPj
      clear hc
      go_wp2_with (go_at_call 6; go_loud (refine HPj.out.mono ?_; rintro e w6 ⟨rfl, hb6⟩; have z6 := hb6.size; have HB6 := Lib.hid (HBW.out.trans (hb6.mono HBW.out.size))))
      go_ret3
      exact ⟨rfl, HB6.out.alloc HB6.out.size _⟩

set_option maxRecDepth 100000 in
theorem Script_large (t : ByteArray) (w : World) (hs : 8192 < t.size) (hm : t.size ≤ maxLen) :
    Calls Tryd.prog 9 #[.string t] w fun e w' => e = .returned (.tuple #[.slice none 0 0, .int .i64 0, .int .i64 2]) ∧ Below w.heap.size w w' := by
  unfold maxLen at hm
  have b1 : decide ((8192 : Int) < (t.size : Int)) = true := decide_eq_true (by omega)
  clear hs
  go_enter Tryd.func9, Tryd.ntmps9
  go_wp2
  go_ret3
  exact ⟨rfl, Below.refl _ _⟩
set_option maxRecDepth 100000 in
theorem Script_none (w : World) : Calls Tryd.prog 9 #[.string .empty] w (ScOk .empty w) := by
  unfold ScOk
  rw [lines_empty]
  go_enter Tryd.func9, Tryd.ntmps9
  go_wp2
  go_ret3
  exact ⟨none, 0, rfl, Sl.none_, Below.refl _ _⟩
theorem Script_yes (t : ByteArray) (w : World) (hs : t.size ≤ 8192) (he : Env w) (hall : ∀ i, i < (linesOf t).length → (parseC (linesOf t)[i]!).2 = 0) :
    Calls Tryd.prog 9 #[.string t] w (ScOk t w) := by
  by_cases ht : t = .empty
  · subst ht; exact Script_none w
  · exact Script_ok t w hs ht he hall
end Go.Proofs.YtdlifdmnfbjokaaDoor
