/- slices.Delete on a row of the caller's own, one instance. -/
import Derived.Test.YtjmdebeffpdpcaaGreatDoorDel
namespace Go.Proofs.YtjmdebeffpdpcaaGreatDoor
open Go.RowKit

theorem DeleteRw_info : (Tryz.prog.info? 54).map (fun i => (i.zero, i.size, i.bytes)) = some (some (.agg #[.string ByteArray.empty, .string ByteArray.empty]), 2, 32) := by kernel_rfl

set_option maxRecDepth 100000 in
set_option maxHeartbeats 2000000 in
theorem DeleteRw_own (base g n cap i j : Nat) (xs : List Value) (w : World) (hown : w.ownsRow base 54 2 (.slice (some ⟨g, 0, none⟩) n cap) n xs) (h1 : ∀ u ∈ xs, u.oneCell' = true) (m q : Nat) (hij : i < j) (hj : j + m = n) (hq : i + m = q) :
    Calls Tryz.prog 51 #[.slice (some ⟨g, 0, none⟩) n cap, .int .i64 (i : Int), .int .i64 (j : Int)] w fun e w' => e = .returned (.slice (some ⟨g, 0, none⟩) q cap) ∧
      w'.ownsRow base 54 2 (.slice (some ⟨g, 0, none⟩) q cap) q (xs.take (i * 2) ++ xs.drop (j * 2)) ∧ w.grownBy w' (some g) := by
  obtain ⟨i0, J0, J1, J2, J3⟩ := info_parts DeleteRw_info
  obtain ⟨_, _, _, hnc, hcm, _⟩ := own_cur hown
  unfold maxLen at hcm
  have hic : i ≤ cap := by omega
  have hqn : q ≤ n := by omega
  have hqc : q ≤ cap := by omega
  have hmj : n - j = m := by omega
  have HQ := Lib.hid hq
  have HJ := Lib.hid hj
  have HM := Lib.hid hmj
  have hjn : j ≤ n := by omega
  clear hq hj hmj
  have HO := Lib.hid hown
  have H1 := Lib.hid h1
  clear hown h1
  have l1 : ((i : Int) == (j : Int)) = false := beq_eq_false_iff_ne.2 (by omega)
  go_enter Tryz.func51, Tryz.ntmps51
  go_wp2
  have hj := HJ.out
  have hjc : j ≤ cap := by omega
  obtain ⟨ad, had, hsl⟩ : ∃ ad : Addr, (0 < m → ad = ⟨g, j * 2, none⟩) ∧ Hid (∀ W : World, (Instr.slice 32 (.slice (some ⟨g, 0, none⟩) n cap) (some (.int .i64 (j : Int))) none none).run Tryz.prog W = .ok (.slice (some ad) (m) (cap - j)) W) := by
    refine ⟨if cap = j then ⟨g, 0, none⟩ else ⟨g, j * 2, none⟩, fun h => by rw [if_neg (by omega)], fun W => ?_⟩
    rw [← HM.out]
    clear hj
    by_cases hcj : cap = j
    · simp only [hcj, if_true]
      go_simp
    · simp only [hcj, if_false]
      go_simp
  clear hj
  refine Dr.region (Two (fun w' => w' = w.drew) (fun w' => w'.ownsRow base 54 2 (.slice (some ⟨g, 0, none⟩) q cap) q (xs.take (i * 2) ++ xs.drop (j * 2)) ∧ w.grownBy w' (some g))) [6] [(0, 0, false), (0, 0, false), (0, 0, false), (0, 0, false), (0, 0, false), (0, 0, false), (0, 0, true), (1, 1, false)] 1 (by kernel_rfl) (by kernel_rfl) (by kernel_rfl) (by kernel_rfl) (by rfl) ?_
  apply Dr.cons
  · intro k hk1 hk2 w' hw K hK; go_simp; exact hK _ hw
  · exact ⟨_, rfl⟩
  apply Dr.cons
  · intro k hk1 hk2 w' hw K hK; go_simp; exact hK _ hw
  · exact ⟨_, rfl⟩
  apply Dr.cons
  · intro k hk1 hk2 w' hw K hK; go_simp; exact hK _ hw
  · exact ⟨_, rfl⟩
  apply Dr.cons
  · intro k hk1 hk2 w' hw K hK; go_simp; exact hK _ hw
  · exact ⟨_, rfl⟩
  apply Dr.cons
  · intro k hk1 hk2 w' hw K hK; go_simp; exact hK _ hw
  · exact ⟨_, rfl⟩
  apply Dr.cons
  · have hsl' := hsl.out
    intro k hk1 hk2 w' hw K hK; go_simp; exact hK _ hw
  · exact ⟨_, rfl⟩
  apply Dr.cons
  · intro k hk1 hk2 w' hw K hK; obtain rfl : k = 0 := by omega
    obtain rfl : w' = _ := hw
    refine Dr.run_ (by rfl) ?_
    refine wp_append_splice (.tmp 22) (.tmp 25) 32 rfl i0 Tryz.underlying32 J0 J2 (own_drewN HO.out 1) H1.out i j m (cap - j) (by omega) HJ.out ad had rfl rfl ?_
    intro w1 hown1 hg1
    rw [HQ.out] at hown1 ⊢
    exact hK _ ⟨hown1, ⟨hg1.os, hg1.tape, hg1.output, hg1.size, hg1.block⟩⟩
  · exact ⟨_, rfl⟩
  apply Dr.cons
  · intro k hk1 hk2 w' hw K hK; go_simp; exact hK _ hw
  · exact ⟨_, rfl⟩
  intro w1 hw1
  obtain ⟨hown1, hg1⟩ : w1.ownsRow base 54 2 (.slice (some ⟨g, 0, none⟩) q cap) q (xs.take (i * 2) ++ xs.drop (j * 2)) ∧ w.grownBy w1 (some g) := hw1
  have hq := HQ.out
  have hj := HJ.out
  obtain ⟨ad2, had2, hsl2⟩ : ∃ ad2 : Addr, (0 < n - q → ad2 = ⟨g, q * 2, none⟩) ∧ Hid (∀ W : World, (Instr.slice 32 (.slice (some ⟨g, 0, none⟩) q cap) (some (.int .i64 (q : Int))) (some (.int .i64 (n : Int))) none).run Tryz.prog W = .ok (.slice (some ad2) (n - q) (cap - q)) W) := by
    refine ⟨if cap = q then ⟨g, 0, none⟩ else ⟨g, q * 2, none⟩, fun h => by rw [if_neg (by omega)], fun W => ?_⟩
    clear hj hq
    by_cases hcj : cap = q
    · simp only [hcj, if_true]
      have hqn2 : n = q := by omega
      simp only [hqn2]
      go_simp
    · simp only [hcj, if_false]
      go_simp
  clear hj hq
  have hsl3 := hsl2.out
  go_wp2_with (refine wpList_clear_tail rfl (.tmp 31) 32 rfl i0 _ Tryz.underlying32 J0 J1 rfl (by simp [Value.cells, Value.oneCell']) hown1 (n - q) (cap - q) (by omega) ad2 had2 rfl ?_; intro w2 hown2 hg2)
  go_ret
  exact ⟨rfl, hown2, grown_trans hg1 hg2⟩

/-- The same, its numbers spelt as they come. -/
theorem DeleteRw_at (base g n cap i j : Nat) (x y : Int) (hx : x = i) (hy : y = j) (xs : List Value) (w : World) (hown : w.ownsRow base 54 2 (.slice (some ⟨g, 0, none⟩) n cap) n xs) (h1 : ∀ u ∈ xs, u.oneCell' = true) (m q : Nat) (hij : i < j) (hj : j + m = n) (hq : i + m = q) :
    Calls Tryz.prog 51 #[.slice (some ⟨g, 0, none⟩) n cap, .int .i64 x, .int .i64 y] w fun e w' => e = .returned (.slice (some ⟨g, 0, none⟩) q cap) ∧
      w'.ownsRow base 54 2 (.slice (some ⟨g, 0, none⟩) q cap) q (xs.take (i * 2) ++ xs.drop (j * 2)) ∧ w.grownBy w' (some g) := by
  subst hx hy
  exact DeleteRw_own base g n cap i j xs w hown h1 m q hij hj hq

end Go.Proofs.YtjmdebeffpdpcaaGreatDoor
