/- The law's own rule: odd. -/
import Derived.Test.YtdmecagdjbjgjaaR16
namespace Go.Proofs.Ytdmecagdjbjgjaa
open Go.RowKit

def oddB : ByteArray := ⟨#[111, 100, 100]⟩
def oddL : Nat → List Al
  | 0 => []
  | j + 1 => oddL j ++ [⟨oddB, ((2 * j + 1 : Nat) : Int), ((2 * j + 1 : Nat) : Int), -1⟩]
theorem oddL_len : ∀ j, (oddL j).length = j
  | 0 => rfl
  | j + 1 => by rw [show oddL (j + 1) = oddL j ++ [_] from rfl, List.length_append, oddL_len j]; rfl

set_option maxRecDepth 100000 in
set_option maxHeartbeats 8000000 in
theorem Odd_any (s : Sc) (w : World) (hn : s.n ≤ 32) : Calls Try.prog 17 #[.agg #[], s.val] w (AlsP (oddL (s.n / 2)) w) := by
  unfold AlsP
  have hnd : s.n / 2 ≤ 16 := by omega
  obtain ⟨K, hK⟩ : ∃ K, s.n / 2 = K := ⟨_, rfl⟩
  rw [hK] at hnd ⊢
  have hKn : K = s.n / 2 := hK.symm
  unfold Sc.val
  obtain ⟨tm, A, n, c, B, mm, d, T, V⟩ := s
  dsimp only at *
  clear hK
  obtain ⟨i51, E0, E1, E2, E3⟩ := info_parts alert_info
  obtain ⟨w1, hw1⟩ : ∃ W, w.alloc (.cells #[] 61) = W := ⟨_, rfl⟩
  obtain ⟨w2, hw2⟩ : ∃ W, w1.alloc (.cells #[.int .i64 tm, .slice A n c, .slice B mm d] 25) = W := ⟨_, rfl⟩
  have hb1 : Below w.heap.size w w1 := by rw [← hw1]; exact (Below.refl _ _).alloc (Nat.le_refl _) _
  have hb2 : Below w1.heap.size w1 w2 := by rw [← hw2]; exact (Below.refl _ _).alloc (Nat.le_refl _) _
  have hb12 := hb1.trans (hb2.mono hb1.size)
  have hyc : w2.heap[w1.heap.size]? = some (.cells #[.int .i64 tm, .slice A n c, .slice B mm d] 25 (0, 0)) := by rw [← hw2]; exact heap_alloc_new _ _
  have hl1 : w1.heap.size < w2.heap.size := by rw [← hw2]; simp
  obtain ⟨k, hk⟩ : ∃ k, w1.heap.size = k := ⟨_, rfl⟩
  rw [hk] at hyc hl1
  have HB12 := Lib.hid hb12
  have HY := Lib.hid hyc
  clear hb1 hb2 hb12 hyc
  go_enter Try.func17, Try.ntmps17
  go_wp2
  go_loopw [5, 6] (fun v x wr => ∃ (j : Nat) (V : Option Addr) (cv : Nat), j ≤ K ∧ x = .int .i64 ((2 * j + 1 : Nat) : Int) ∧ v = .slice V j cv ∧ Hid (wr.ownsRow w2.heap.size 51 4 (.slice V j cv) j (rowsV alL (oddL j))) ∧ Hid (Below w2.heap.size w2 wr)) (fun _ x _ => 2 * K + 1 - (intOf x).toNat)
  case atStart => exact ⟨0, none, 0, by omega, rfl, rfl, Lib.hid (World.ownsRow_nil _ _ _ _), Lib.hid (Below.refl _ _)⟩
  case round =>
    obtain ⟨j, V, cv, hj, rfl, rfl, HO, HB⟩ := hrel
    have hzr := HB.out.size
    have p1 : wr.cell? ⟨k, 1, none⟩ = some (.slice A n c) := cell_of_row wr _ 1 _ 25 (0, 0) ((HB.out.block k hl1).trans HY.out)
    have HST : Hid (rowsV alL (oddL (j + 1)) = rowsV alL (oddL j) ++ [.string oddB, .int .i64 ((2 * j + 1 : Nat) : Int), .int .i64 ((2 * j + 1 : Nat) : Int), .int .i64 (-1)]) := Lib.hid (by
      rw [show oddL (j + 1) = oddL j ++ [⟨oddB, ((2 * j + 1 : Nat) : Int), ((2 * j + 1 : Nat) : Int), -1⟩] from rfl, rowsV_append]
      rfl)
    have hj16 : j ≤ 16 := by omega
    by_cases hlt : j < K
    · have l1 : ((2 * j + 1 : Nat) : Int) < (n : Int) := by omega
      have hwj : IntKind.i64.wrap (((2 * j + 1 : Nat) : Int) + 2) = ((2 * (j + 1) + 1 : Nat) : Int) := by rw [IntWalk.i64_in _ (by omega)]; omega
      have hjj : (intOf (.int .i64 ((2 * j + 1 : Nat) : Int))) = ((2 * j + 1 : Nat) : Int) := rfl
      generalize hx : ((2 * j + 1 : Nat) : Int) = x at *
      generalize hx2 : ((2 * (j + 1) + 1 : Nat) : Int) = x2 at *
      have HX := Lib.hid hx
      have HX2 := Lib.hid hx2
      unfold oddB at HST
      clear hx hx2 hjj
      go_wp2_with (at_builtin; go_loud (refine wpList_append_oneN wr wr.heap.size rfl #[.string ⟨#[111, 100, 100]⟩, .int .i64 x, .int .i64 x, .int .i64 (-1)] rfl (.tmp 14) (.tmp 18) 35 rfl w2.heap.size 51 i51 (.agg #[.string ByteArray.empty, .int .i64 0, .int .i64 0, .int .i64 0]) 4 40 Try.underlying35 E0 E1 E2 E3 rfl (by decide) (.slice V j cv) j _ rfl HO.out rfl rfl (by simp [Value.oneCell']) (by omega) (by decide) (by omega) ?_); intro g6 cap6 w6 hv6 hg6 hat6 hlt6)
      go_roundw
      case rel =>
        refine ⟨j + 1, some ⟨g6, 0, none⟩, cap6, by omega, by rw [HX2.out], rfl, ?_, ?_⟩
        · exact Lib.hid (by rw [HST.out]; exact hv6)
        · exact Lib.hid (below_app HB.out hzr HO.out (Nat.le_refl _) hg6)
      case measure => have := HX.out; have := HX2.out; simp [intOf]; omega
    · obtain rfl : K = j := by omega
      have l1 : ¬ ((2 * K + 1 : Nat) : Int) < (n : Int) := by omega
      have l2 : decide (((2 * K + 1 : Nat) : Int) < (n : Int)) = false := decide_eq_false l1
      generalize ((2 * K + 1 : Nat) : Int) = x at *
      go_wp2
      go_ret
      refine ⟨⟨V, cv, by rw [oddL_len]; rfl, ?_⟩, HB12.out.trans (HB.out.mono HB12.out.size)⟩
      rw [oddL_len]
      first
        | exact own_base HO.out HB12.out.size
        | (rw [← hKn]; exact own_base HO.out HB12.out.size)
end Go.Proofs.Ytdmecagdjbjgjaa
