/- bytes.Repeat of one blank. -/
import Derived.Test.YtlkdjnmehnibmaaMore
import Derived.Test.YtlkdjnmehnibmaaSh
import Derived.Test.YtlkdjnmehnibmaaDr
import Derived.Test.YtlkdjnmehnibmaaFlat
import Derived.Test.YtlkdjnmehnibmaaCut
import Derived.Lib.MakeNoZero
import Derived.Lib.MinMax
import Derived.Laws.CopyOwn
import Derived.Deep.RegionLaw
import Derived.BigQuiet
import Derived.Deep.QuietTactic
import Derived.Deep.DeepMust
import Derived.IntWalk
import Derived.Outline
namespace Go.Proofs.Ytlkdjnmehnibmaa
open Go.RowKit

theorem Mul_one (n : Nat) (hn : n ≤ 60) (W : World) : Calls Try.prog 36 #[.int .u64 1, .int .u64 (n : Int)] W fun e w' => e = .returned (.tuple #[.int .u64 0, .int .u64 (n : Int)]) ∧ W = w' := by
  have h := Any.bits_Mul Try.lays212 1 n (by omega) (by omega) W
  have h : Calls Try.prog 36 #[.int .u64 1, .int .u64 (n : Int)] W fun e w' => e = .returned (.tuple #[.int .u64 ((1 * n / 18446744073709551616 : Nat) : Int), .int .u64 ((1 * n % 18446744073709551616 : Nat) : Int)]) ∧ w' = W := h
  rw [show 1 * n / 18446744073709551616 = 0 by omega, show 1 * n % 18446744073709551616 = n by omega] at h
  exact h.mono fun _ _ ⟨a, b⟩ => ⟨a, b.symm⟩

/-- A row of bytes. -/
def Bytes (W : World) (g n : Nat) (f : Nat → Int) : Prop := ∃ cur : List Value, W.heap[g]? = some (.cells cur.toArray 5 (0, 0)) ∧ n ≤ cur.length ∧ ∀ i, i < n → cur[i]? = some (.int .u8 (f i))
theorem Bytes.lt {W : World} {g n : Nat} {f : Nat → Int} (h : Bytes W g n f) : g < W.heap.size := by
  obtain ⟨cur, h, _⟩ := h
  exact (Array.getElem?_eq_some_iff.1 h).1
theorem Bytes.cell {W : World} {g n : Nat} {f : Nat → Int} (h : Bytes W g n f) {i : Nat} (hi : i < n) : W.cell? ⟨g, i, none⟩ = some (.int .u8 (f i)) ∧ W.frozen? ⟨g, i, none⟩ = false := by
  obtain ⟨cur, h1, h2, h3⟩ := h
  exact ⟨(cell_of_row W g i _ 5 (0, 0) h1).trans (by simpa using h3 i hi), frozen_of_row W g i _ 5 h1⟩
theorem Bytes.keep {W W' : World} {g n : Nat} {f : Nat → Int} (h : Bytes W g n f) (hk : W'.heap[g]? = W.heap[g]?) : Bytes W' g n f := by
  obtain ⟨cur, h1, h2, h3⟩ := h
  exact ⟨cur, hk.trans h1, h2, h3⟩
theorem Bytes.set {W : World} {g n : Nat} {f : Nat → Int} (h : Bytes W g n f) (i : Nat) (x : Int) : Bytes (W.setCell ⟨g, i, none⟩ (.int .u8 x)) g n (fun j => if j = i then x else f j) := by
  obtain ⟨cur, h1, h2, h3⟩ := h
  have := heap_setCell_same W g i _ 5 (.int .u8 x) h1
  rw [List.setIfInBounds_toArray] at this
  refine ⟨_, this, by simpa using h2, fun j hj => ?_⟩
  rw [List.getElem?_set]
  by_cases e : i = j
  · subst e
    rw [if_pos rfl, if_pos (by omega)]
    show _ = some (Value.int .u8 (if i = i then x else f i))
    rw [if_pos rfl]
  · rw [if_neg e]
    show _ = some (Value.int .u8 (if j = i then x else f j))
    rw [if_neg (fun x => e x.symm)]
    exact h3 j hj

theorem splice_fill {cur : List Value} {bp m n : Nat} (hb : bp + m ≤ n) (hn : n ≤ cur.length) (h : ∀ i, i < bp → cur[i]? = some (.int .u8 32)) : ∀ i, i < bp + m → (splice cur bp (List.replicate m (.int .u8 32)))[i]? = some (Value.int .u8 32) := by
  intro i hi
  unfold splice
  by_cases h1 : i < bp
  · rw [List.getElem?_append_left (by rw [List.length_take]; omega), List.getElem?_take, if_pos h1]
    exact h i h1
  · rw [List.getElem?_append_right (by rw [List.length_take]; omega), List.length_take, Nat.min_eq_left (by omega), List.getElem?_append_left (by rw [List.length_replicate]; omega), List.getElem?_replicate, if_pos (by omega)]

/-- The first b bytes of a row are blanks. -/
def Fill (g n b : Nat) (W : World) : Prop := ∃ cur : List Value, W.heap[g]? = some (.cells cur.toArray 5 (0, 0)) ∧ n ≤ cur.length ∧ ∀ i, i < b → cur[i]? = some (.int .u8 32)
theorem u8_size : (Try.prog.info? 5).map (·.size) = some 1 := by kernel_rfl
theorem slice_from (g n b : Nat) (h : b < n) (hn : n ≤ 60) (W : World) : (Instr.slice 58 (.slice (some ⟨g, 0, none⟩) n n) (some (.int .i64 (b : Int))) none none).run Try.prog W = .ok (.slice (some ⟨g, b, none⟩) (n - b) (n - b)) W := by
  have h0 : (0 : Int) ≤ (b : Int) := by omega
  have h1 : (b : Int) ≤ (n : Int) := by omega
  have h2 : ¬ n = b := by omega
  go_simp
theorem slice_to (g n b : Nat) (h : b ≤ n) (hn : n ≤ 60) (W : World) : (Instr.slice 58 (.slice (some ⟨g, 0, none⟩) n n) none (some (.int .i64 (b : Int))) none).run Try.prog W = .ok (.slice (some ⟨g, 0, none⟩) b n) W := by
  have h0 : (0 : Int) ≤ (b : Int) := by omega
  have h1 : (b : Int) ≤ (n : Int) := by omega
  go_simp

set_option maxRecDepth 100000 in
set_option maxHeartbeats 4000000 in
theorem Repeat_blank (s n : Nat) (w : World) {fr : Nat × Nat} (hs : w.heap[s]? = some (.cells #[.int .u8 32] 5 fr)) (h1 : 1 ≤ n) (hn : n ≤ 60) :
    Calls Try.prog 26 #[.slice (some ⟨s, 0, none⟩) 1 1, .int .i64 (n : Int)] w fun e w' => e = .returned (.slice (some ⟨w.heap.size, 0, none⟩) n n) ∧ Bytes w' w.heap.size n (fun _ => 32) ∧ Below w.heap.size w w' := by
  have hsl : s < w.heap.size := (Array.getElem?_eq_some_iff.1 hs).1
  obtain ⟨cs, hrunM, hle, hmax⟩ := Lib.run_makeNoZero (P := Try.prog) w #[3] 58 5 Try.underlying58 n (by omega)
  have hcall : (callFunc 37 #[.int .i64 (n : Int)]).run Try.prog w = .ok (.value (.slice (some ⟨w.heap.size, 0, none⟩) n cs.size)) ((w.alloc (.cells cs 5)).drewN 2) := by
    rw [run_callFunc_extern Try.func37 (by kernel_rfl) (by kernel_rfl) (by kernel_rfl) (e := Extern.BytealgMakeNoZero.makeNoZero #[3] #[58]) (by kernel_rfl), hrunM]
    rfl
  clear hrunM
  have n0 : (0 : Int) ≤ (n : Int) := by omega
  have nc : (n : Int) ≤ (cs.size : Int) := by omega
  have hb0 : Below w.heap.size w ((w.alloc (.cells cs 5)).drewN 2) := below_drewN ((Below.refl _ _).alloc (Nat.le_refl _) _) 2
  have HB0 := Lib.hid hb0
  have HG0 : Hid (((w.alloc (.cells cs 5)).drewN 2).heap[w.heap.size]? = some (.cells cs.toList.toArray 5 (0, 0))) := Lib.hid (heap_alloc_new w _)
  have HS := Lib.hid hs
  have hne : ((n : Int) == 0) = false := beq_eq_false_iff_ne.2 (by omega)
  clear hb0 hs
  go_enter Try.func26, Try.ntmps26
  have hn' : cs.toList.length = cs.size := by simp
  have HNL := Lib.hid hn'
  clear hn'
  go_wp2_with (first
    | (go_at_call 36; go_loud (refine (Mul_one n hn _).mono ?_; rintro e w1 ⟨rfl, rfl⟩))
    | (refine wpList_copy_splice rfl (.tmp 58) (.tmp 59) 58 58 rfl 5 Try.underlying58 u8_size (some ⟨w.heap.size, 0, none⟩) (some ⟨s, 0, none⟩) n n 1 1 rfl rfl w.heap.size 0 cs.toList 5 HG0.out [.int .u8 32] (by show 1 = Nat.min 1 n; exact (Nat.min_eq_left h1).symm) (fun _ => ⟨rfl, ⟨s, 0, none⟩, rfl, (fun j v hv => by
        have hj0 : j = 0 := by
          rcases Nat.eq_zero_or_pos j with h | h
          · exact h
          · rw [List.getElem?_eq_none (by simp; omega)] at hv; cases hv
        subst hj0
        simp only [List.getElem?_cons_zero, Option.some.injEq] at hv
        rw [← hv]
        exact (HB0.out.cell (p := ⟨s, 0, none⟩) hsl).trans (cell_of_row w s 0 _ 5 fr HS.out))⟩) (by rw [HNL.out]; simp; omega) (by simp [Value.oneCell']) w.heap.size w HB0.out (Nat.le_refl _) ?_; intro w2 hg2 hb2))
  have hF1 : Fill w.heap.size n 1 w2 := by
    have := splice_fill (cur := cs.toList) (bp := 0) (m := 1) (n := n) (by omega) (by rw [HNL.out]; exact hle) (fun i hi => absurd hi (by omega))
    exact ⟨_, hg2.out, by rw [length_splice _ _ _ (by rw [HNL.out]; simp; omega), HNL.out]; exact hle, fun i hi => this i (by omega)⟩
  have HF1 := Lib.hid hF1
  clear hF1 hg2
  go_loopw [10] (fun x wr => ∃ b : Nat, 1 ≤ b ∧ b ≤ n ∧ x = .int .i64 b ∧ Fill w.heap.size n b wr ∧ Below w.heap.size w wr) (fun x _ => n - (intOf x).toNat)
  case atStart => exact ⟨1, by omega, h1, rfl, HF1.out, hb2⟩
  case round =>
    obtain ⟨b, hb1, hbn, rfl, hF, hbw⟩ := hrel
    have HBW := Lib.hid hbw
    by_cases hlt : b < n
    · obtain ⟨cur, hcur, hlen, hfill⟩ := hF
      have HCUR := Lib.hid hcur
      have HFILL := Lib.hid hfill
      have hmin : min (b : Int) (n : Int) = (b : Int) := by omega
      have hs1 := slice_from w.heap.size n b hlt hn
      have hs2 := slice_to w.heap.size n b (by omega) hn
      have hb0 : (0 : Int) ≤ (b : Int) := by omega
      have hbn' : (b : Int) < (n : Int) := by omega
      obtain ⟨m, hm⟩ : ∃ m, m = Nat.min b (n - b) := ⟨_, rfl⟩
      have hmm : (m = b ∧ b ≤ n - b) ∨ (m = n - b ∧ n - b ≤ b) := by
        rcases Nat.le_total b (n - b) with h | h
        · exact .inl ⟨hm.trans (Nat.min_eq_left h), h⟩
        · exact .inr ⟨hm.trans (Nat.min_eq_right h), h⟩
      have hm1 : 1 ≤ m ∧ b + m ≤ n := by omega
      have hmw : IntKind.i64.wrap ((b : Int) + (m : Int)) = (b : Int) + (m : Int) := IntWalk.i64_in _ (by omega)
      have HM := Lib.hid hm
      have hmb : m ≤ b := by omega
      have hwl : w.heap.size < wr.heap.size := (Array.getElem?_eq_some_iff.1 hcur).1
      clear hcur hfill hm hbw hmm
      go_wp2_with fail
      refine Dr.region (Dr.Ph (fun w' => w' = wr.drew) (fun w' => Fill w.heap.size n (b + m) w' ∧ Below w.heap.size w w')) [7] [(0, 1, false), (0, 0, false), (0, 0, false), (0, 0, false), (0, 0, false), (0, 0, false), (0, 0, false), (0, 0, true), (1, 1, false), (1, 1, false)] 1 (by kernel_rfl) (by kernel_rfl) (by kernel_rfl) (by kernel_rfl) (by rfl) ?_
      apply Dr.cons
      · intro k hk1 hk2 w' hw K hK; go_simp; exact hK _ hw
      · exact ⟨_, rfl⟩
      apply Dr.cons
      · intro k hk1 hk2 w' hw K hK; go_simp; exact hK _ hw
      · exact ⟨_, rfl⟩
      apply Dr.cons
      · intro k hk1 hk2 w' hw K hK; go_simp; exact hK _ hw
      · exact ⟨_, rfl⟩
      apply Dr.cons
      · intro k hk1 hk2 w' hw K hK; go_simp; exact hK _ hw
      · exact ⟨_, rfl⟩
      apply Dr.cons
      · intro k hk1 hk2 w' hw K hK; go_simp; exact hK _ hw
      · exact ⟨_, rfl⟩
      apply Dr.cons
      · intro k hk1 hk2 w' hw K hK; go_simp; exact hK _ hw
      · exact ⟨_, rfl⟩
      apply Dr.cons
      · intro k hk1 hk2 w' hw K hK; go_simp; exact hK _ hw
      · exact ⟨_, rfl⟩
      apply Dr.cons
      · intro k hk1 hk2 w' hw K hK
        obtain rfl : k = 0 := by omega
        obtain rfl : w' = _ := hw
        refine step_copy_splice rfl (.tmp 70) (.tmp 73) 58 58 rfl 5 Try.underlying58 u8_size (some ⟨w.heap.size, b, none⟩) (some ⟨w.heap.size, 0, none⟩) (n - b) (n - b) b n rfl rfl w.heap.size b cur 5 HCUR.out (List.replicate m (.int .u8 32)) (by rw [List.length_replicate]; exact HM.out) (fun _ => ⟨rfl, ⟨w.heap.size, 0, none⟩, rfl, fun j v hv => ?_⟩) (by rw [List.length_replicate]; omega) (fun v hv => by rw [List.eq_of_mem_replicate hv]; rfl) w.heap.size w (below_drewN HBW.out 1) (Nat.le_refl _) ?_
        · have hj : j < m := by
            have := (List.getElem?_eq_some_iff.1 hv).1
            simpa using this
          rw [List.getElem?_replicate, if_pos hj] at hv
          injection hv with hv
          rw [← hv, Addr.add_mid, Nat.zero_add]
          exact (cell_of_row wr w.heap.size j _ 5 (0, 0) HCUR.out).trans (by have := HFILL.out j (by omega); simpa using this)
        · intro w3 hg3 hb3
          rw [List.length_replicate]
          exact hK _ ⟨⟨_, hg3.out, by rw [length_splice _ _ _ (by rw [List.length_replicate]; omega)]; exact hlen, splice_fill hm1.2 hlen HFILL.out⟩, hb3⟩
      · exact ⟨_, rfl⟩
      apply Dr.cons
      · intro k hk1 hk2 w' hw K hK; go_simp; exact hK _ hw
      · exact ⟨_, rfl⟩
      apply Dr.cons
      · intro k hk1 hk2 w' hw K hK; go_simp; exact hK _ hw
      · exact ⟨_, rfl⟩
      intro w3 hw3
      have hw3 : Fill w.heap.size n (b + m) w3 ∧ Below w.heap.size w w3 := hw3
      go_wp2
      go_roundw
      case rel => exact ⟨b + m, by omega, hm1.2, by go_num, hw3.1, hw3.2⟩
      case measure => simp [intOf]; omega
    · obtain rfl : n = b := by omega
      have HF := Lib.hid hF
      clear hF
      go_wp2
      go_ret
      exact ⟨rfl, HF.out, HBW.out⟩
end Go.Proofs.Ytlkdjnmehnibmaa
