/- The walk of ApproachWithout. -/
import Derived.Test.YtmdfdjgeaemicaaB3
import Derived.Test.YtmdfdjgeaemicaaDelI
import Derived.Test.YtmdfdjgeaemicaaDelN
import Derived.Deep.RegionHeld3
import Derived.Deep.DeepMust
namespace Go.Proofs.Ytmdfdjgeaemicaa
open Go.RowKit

/-- The arrivals without one. -/
def woIt (its : Nat → It) (at_ i : Nat) : It := if i < at_ then its i else its (i + 1)

theorem tT_without {g : Nat → Int} {its : Nat → It} {a : Nat} : ∀ i, tT g (woIt its a) i ≤ tT g its (if i < a then i else i + 1) := by
  intro i
  induction i using Nat.strongRecOn with
  | _ i ih =>
    obtain ⟨p, hp⟩ : ∃ p, p = if i < a then i else i + 1 := ⟨_, rfl⟩
    have e : woIt its a i = its p := by
      unfold woIt
      rw [hp]
      split <;> rfl
    rw [← hp]
    have h := nextT_at (g := g) (wk := fun k => (woIt its a k).wk) (od := id) (ts := tT g (woIt its a)) (r := (woIt its a i).rd) (w := (woIt its a i).wk) i
    rw [← tT_eq] at h
    rcases h with h | ⟨k, hk, h⟩
    · rw [h, e]; exact tT_ready
    · obtain ⟨q, hq⟩ : ∃ q, q = if k < a then k else k + 1 := ⟨_, rfl⟩
      have hqp : q < p := by
        rw [hq, hp]
        split <;> split <;> omega
      have ek : woIt its a k = its q := by
        unfold woIt
        rw [hq]
        split <;> rfl
      have h1 := ih k hk
      rw [← hq] at h1
      have h2 := tT_gap (g := g) (its := its) hqp
      rw [h]
      show tT g (woIt its a) k + g ((woIt its a k).wk.toNat * 4 + (woIt its a i).wk.toNat) ≤ _
      rw [ek, e]
      omega

def tWo (g : Nat → Int) (its : Nat → It) (a j : Nat) : Int := if j < a then tT g its j else tT g its (j + 1)
theorem tWo_ge {g : Nat → Int} {its : Nat → It} {a : Nat} (j : Nat) : tT g (woIt its a) j ≤ tWo g its a j := by
  have h := tT_without (g := g) (its := its) (a := a) j
  unfold tWo
  split
  · rename_i h1; rw [if_pos h1] at h; exact h
  · rename_i h1; rw [if_neg h1] at h; exact h

theorem code_without {n : Nat} {its : Nat → It} {g : Nat → Int} {a : Nat} (hc : checkCode n its g = 0) : checkCode (n - 1) (woIt its a) g = 0 := by
  obtain ⟨h1, h2, h3⟩ := checkCode_inv hc
  refine checkCode_ok (by omega) h2 (fun i hi => ?_)
  unfold woIt
  split
  · exact h3 i (by omega)
  · exact h3 (i + 1) (by omega)

theorem woIt_rows {its : Nat → It} {n a : Nat} (ha : a < n) :
    (flatR (fun i => (its i).row) n).take (a * 4) ++ (flatR (fun i => (its i).row) n).drop ((a + 1) * 4) = flatR (fun i => (woIt its a i).row) (n - 1) := by
  rw [flatR_del (row := fun i => (its i).row) (k := 4) (by decide) (fun _ _ => row_len _) a ha]
  congr 1
  funext x
  unfold woIt
  split <;> rfl

theorem rows_one {its : Nat → It} {n : Nat} : ∀ u ∈ flatR (fun i => (its i).row) n, u.oneCell' = true := fun u hu => by
  obtain ⟨i, _, h⟩ := flatR_mem hu
  exact row_one _ u h
theorem ints_one {l : List Int} : ∀ u ∈ intsV l, u.oneCell' = true := fun u hu => by
  simp only [intsV, List.mem_map] at hu
  obtain ⟨x, _, rfl⟩ := hu
  rfl

def exG (g : Nat → Int) : Array Value := #[.int .i64 (g 0), .int .i64 (g 1), .int .i64 (g 2), .int .i64 (g 3), .int .i64 (g 4), .int .i64 (g 5), .int .i64 (g 6), .int .i64 (g 7), .int .i64 (g 8), .int .i64 (g 9), .int .i64 (g 10), .int .i64 (g 11), .int .i64 (g 12), .int .i64 (g 13), .int .i64 (g 14), .int .i64 (g 15)]

theorem Gaps.ex {G : Array Value} {g : Nat → Int} (h : Gaps G g) : G = exG g := by
  apply Array.ext
  · rw [h.1]; rfl
  · intro i h1 h2
    have h3 : i < 16 := h2
    have e := h.2 i h3
    rw [Array.getElem?_eq_getElem h1] at e
    have e' := Option.some.inj e
    rw [e']
    have hh : i = 0 ∨ i = 1 ∨ i = 2 ∨ i = 3 ∨ i = 4 ∨ i = 5 ∨ i = 6 ∨ i = 7 ∨ i = 8 ∨ i = 9 ∨ i = 10 ∨ i = 11 ∨ i = 12 ∨ i = 13 ∨ i = 14 ∨ i = 15 := by omega
    rcases hh with rfl | rfl | rfl | rfl | rfl | rfl | rfl | rfl | rfl | rfl | rfl | rfl | rfl | rfl | rfl | rfl <;> rfl

theorem exG_cell {g : Nat → Int} {N k : Nat} (hk : k < 16) (hG : Gaps (exG g) g) : ∀ W : World, W.heap[N]? = some (.cells (exG g) 24 (0, 0)) → W.cell? ⟨N, k, none⟩ = some (.int .i64 (g k)) := fun W h => by
  rw [cell_of_row W N k _ _ _ h]
  exact hG.2 k hk

set_option maxRecDepth 100000 in
set_option maxHeartbeats 3000000 in
theorem Without_any (A : Option Addr) (n c : Nat) (its : Nat → It) (G : Array Value) (g : Nat → Int) (d : Int) (w : World) (hA : Sl w w.heap.size 4 A n (fun i => (its i).row)) (hn : n ≤ maxLen) (hby : n * 40 ≤ 140737488355328) (hnil : A = none → n = 0) (hG : Gaps G g) :
    Calls Try.prog 5 #[.slice A n c, .agg G, .int .i64 d] w fun e w' => e = .returned (.bool true) ∧ Below w.heap.size w w' := by
  obtain rfl := hG.ex
  have HS := Lib.hid hG.1
  have hb0 : Below w.heap.size w (w.alloc (.cells (exG g) 24)) := (Below.refl _ _).alloc (Nat.le_refl _) _
  have hA1 := (hA.below hb0).more hb0.size
  by_cases hcode : checkCode n its g = 0
  · obtain ⟨h32, _, _⟩ := checkCode_inv hcode
    have HC := Lib.hid hcode
    clear hcode
    by_cases hn0 : n = 0
    · subst hn0
      go_enter Try.func5, Try.ntmps5
      go_wp2_with (first
        | (refine wpList_load_row_w 24 _ rfl w.heap.size rfl rfl 24 (exG g) (0, 0) _ (heap_alloc_new w _) Try.underlying24 rfl (by rw [HS.out]; kernel_rfl) ?_)
        | (go_at_call 8; refine (Times_ok A 0 c its (exG g) g _ hA1 hn hG HC.out).mono ?_; rintro e w2 ⟨v, rfl, hT, hb2⟩)
        | (go_at_call 9; refine (fact_any _).mono ?_; rintro e w4 ⟨rfl, hb4⟩))
      go_ret
      exact ⟨rfl, hb0.trans ((hb2.trans (hb4.mono hb2.size)).mono hb0.size)⟩
    · have ha := cutI_bd (n := d) (lo := 0) (hi := (n : Int) - 1) (by omega)
      obtain ⟨a, hae⟩ : ∃ a : Nat, cutI d 0 ((n : Int) - 1) = a := ⟨(cutI d 0 ((n : Int) - 1)).toNat, by omega⟩
      rw [hae] at ha
      have HAE := Lib.hid hae
      have han : a < n := by omega
      have hwa : IntKind.i64.wrap ((a : Int) + 1) = (a : Int) + 1 := IntWalk.i64_in _ (by omega)
      have hwa2 : (a : Int) + 1 = ((a + 1 : Nat) : Int) := by omega
      have HWA := Lib.hid hwa2
      clear hwa2
      have hl0 : ((n : Int) == 0) = false := beq_eq_false_iff_ne.2 (by omega)
      clear hae
      go_enter Try.func5, Try.ntmps5
      go_wp2_with (first
        | (refine wpList_load_row_w 24 _ rfl w.heap.size rfl rfl 24 (exG g) (0, 0) _ (heap_alloc_new w _) Try.underlying24 rfl (by rw [HS.out]; kernel_rfl) ?_)
        | (go_at_call 8; refine (Times_ok A n c its (exG g) g _ hA1 hn hG HC.out).mono ?_; rintro e w2 ⟨v, rfl, hT, hb2⟩; obtain ⟨T, ct, rfl⟩ := own_shape hT
           have hbx2 : w2.heap[w.heap.size]? = some (.cells (exG g) 24 (0, 0)) := (hb2.block _ (by simp)).trans (heap_alloc_new w _)
           have hA2 := (hA1.below hb2).more hb2.size)
        | (go_at_call 11; refine (Cut_any _ _ _ _ (by omega) (by omega) (by omega)).mono ?_; rintro e w3 ⟨rfl, rfl⟩; rw [HAE.out]))
      have hz2 := hb2.size
      simp only [World.size_alloc] at hz2
      have q0 := exG_cell (N := w.heap.size) (k := 0) (by decide) hG
      have q1 := exG_cell (N := w.heap.size) (k := 1) (by decide) hG
      have q2 := exG_cell (N := w.heap.size) (k := 2) (by decide) hG
      have q3 := exG_cell (N := w.heap.size) (k := 3) (by decide) hG
      have q4 := exG_cell (N := w.heap.size) (k := 4) (by decide) hG
      have q5 := exG_cell (N := w.heap.size) (k := 5) (by decide) hG
      have q6 := exG_cell (N := w.heap.size) (k := 6) (by decide) hG
      have q7 := exG_cell (N := w.heap.size) (k := 7) (by decide) hG
      have q8 := exG_cell (N := w.heap.size) (k := 8) (by decide) hG
      have q9 := exG_cell (N := w.heap.size) (k := 9) (by decide) hG
      have q10 := exG_cell (N := w.heap.size) (k := 10) (by decide) hG
      have q11 := exG_cell (N := w.heap.size) (k := 11) (by decide) hG
      have q12 := exG_cell (N := w.heap.size) (k := 12) (by decide) hG
      have q13 := exG_cell (N := w.heap.size) (k := 13) (by decide) hG
      have q14 := exG_cell (N := w.heap.size) (k := 14) (by decide) hG
      have q15 := exG_cell (N := w.heap.size) (k := 15) (by decide) hG
      go_region_held3 (fun W => W.heap[w.heap.size]? = some (.cells (exG g) 24 (0, 0))) (first | assumption | (simpa using ‹_›))
        (first
          | (go_at_call 12; refine (CloneItems_any A n c (fun i => (its i).row) _ (by exact hA2) (fun i _ => row_len _) (fun i _ => row_one _) hnil hn hby).mono ?_
             rintro e w3 ⟨v, rfl, hM, hb3⟩
             obtain ⟨gm, cm, rfl, hgb, hgl⟩ := hM.form (by omega)
             have hgb2 : w2.heap.size ≤ gm := hgb
             have hz3 : w2.heap.size ≤ w3.heap.size := hb3.size
             have hbx3 : w3.heap[w.heap.size]? = some (.cells (exG g) 24 (0, 0)) := (hb3.block _ (by exact hz2)).trans hbx2)
          | (go_at_call 14; (refine (DeleteItems_at _ gm n cm a (a + 1) _ _ rfl HWA.out _ _ (by exact hM) rows_one (n - (a + 1)) (n - 1) (by omega) (by omega) (by omega)).mono ?_)
             rintro e w4 ⟨rfl, hD, hg4⟩
             have hz4 := hg4.size
             rw [woIt_rows han] at hD
             have hbx4 : w4.heap[w.heap.size]? = some (.cells (exG g) 24 (0, 0)) := (hg4.block _ (by omega) (fun h => by injection h with h; omega)).trans hbx3)
          | (go_at_call 8; refine (Times_ok (some ⟨gm, 0, none⟩) (n - 1) cm (woIt its a) (exG g) g _ (Sl_flat (fun i _ => row_len _) (by exact hD)) (by omega) hG (code_without HC.out)).mono ?_
             rintro e w5 ⟨v, rfl, hU, hb5⟩
             obtain ⟨U, cu, rfl⟩ := own_shape hU
             have hbx5 : w5.heap[w.heap.size]? = some (.cells (exG g) 24 (0, 0)) := (hb5.block _ (by omega)).trans hbx4))
      have hT2 : w2.drew.ownsRow _ 3 1 (.slice T n ct) n (intsV ((List.range n).map (tT g its))) := hT
      obtain ⟨gt, ct', hTF, hgtb, hgtl⟩ := hT.form (by omega)
      have hTF2 : T = some ⟨gt, 0, none⟩ ∧ ct = ct' := by injection hTF with a b c'; exact ⟨a, c'⟩
      obtain ⟨rfl, rfl⟩ := hTF2
      clear hTF hT
      have hT3 := own_below hT2 hb3 (Nat.le_refl _)
      have hT4 := hT3.kept hg4 (.inr (by simp only [Value.ownBlock]; intro h; injection h with h; omega))
      have hTU : ApartV (.slice (some ⟨gt, 0, none⟩) n ct) (.slice U (n - 1) cu) := apart_base hT4 hU (Nat.le_refl _)
      have hT5 := own_below hT4 hb5 (Nat.le_refl _)
      have hb25 : Below w.heap.size w w5 := by
        have b2 : Below w.heap.size w w2 := hb0.trans (hb2.mono hb0.size)
        have b3 : Below w.heap.size w w3 := b2.drew.trans (hb3.mono b2.size)
        have b4 : Below w.heap.size w w4 := b3.grown hg4 (by omega) (fun k hk => by injection hk with hk; omega)
        exact b4.trans (hb5.mono (by omega))
      have hz5 := hb5.size
      have hsz5 : w.heap.size < w5.heap.size := by omega
      simp only [World.size_alloc] at hgtb
      clear hT2 hT3 hT4 hD hM hb3 hg4 hb5 hbx2 hbx3 hbx4 hbx5 hb2 hA2 hA1 hb0 q0 q1 q2 q3 q4 q5 q6 q7 q8 q9 q10 q11 q12 q13 q14 q15
      have hle : (n : Int) - 1 = ((n - 1 : Nat) : Int) := by omega
      have hl1 : (((n - 1 : Nat) : Int) != (n : Int) - 1) = false := by rw [hle]; simp
      have HLE := Lib.hid hle
      clear hle
      go_wp2_with (first
        | (go_at_call 9; refine (fact_any _).mono ?_; rintro e w6 ⟨rfl, hb6⟩
           have hT6 := own_below hT5 hb6 (Nat.le_refl _)
           have hU6 := own_below hU hb6 (Nat.le_refl _))
        | (go_at_call 15; refine (DeleteInts_at _ gt n ct a (a + 1) _ _ rfl HWA.out _ _ (by exact hT6) ints_one (n - (a + 1)) (n - 1) (by omega) (by omega) (by omega)).mono ?_
           rintro e w7 ⟨rfl, hT7, hg7⟩))
      have hU7 := hU6.kept hg7 (by
        rcases hTU with h | h | h
        · cases h
        · exact .inl h
        · exact .inr (Ne.symm h))
      have eT : ∀ xs : List Value, xs = intsV ((List.range n).map (tT g its)) → xs.take (a * 1) ++ xs.drop ((a + 1) * 1) = intsV ((List.range (n - 1)).map (tWo g its a)) := fun xs h => by
        rw [h, intsV_del _ _ _ han]; rfl
      rw [eT _ rfl] at hT7
      have hsT := Sl_ints hT7
      have hsU := Sl_ints hU7
      have hb27 : Below w.heap.size w w7 := (hb25.trans (hb6.mono (by omega))).grown hg7 (by have := hb6.size; omega) (fun k hk => by injection hk with hk; omega)
      clear eT hT7 hU7 hU6 hT6 hT5 hU hTU
      go_loopw [70] (fun k wr => ∃ (j q : Nat), j ≤ n - 1 ∧ k = .int .i64 j ∧ wr = w7.drewN q) (fun k _ => n - 1 - (intOf k).toNat)
      case atStart => exact ⟨0, 0, by omega, rfl, rfl⟩
      case round =>
        obtain ⟨j, q, hj, rfl, rfl⟩ := hrel
        by_cases hlt : j < n - 1
        · obtain ⟨bu, ou, rfl, hbu, hcu⟩ := hsU.one (by omega)
          obtain ⟨bt, ot, hbe, hbt, hct⟩ := hsT.one (by omega)
          simp only [Option.some.injEq, Addr.mk.injEq, and_true] at hbe
          obtain ⟨rfl, rfl⟩ := hbe
          have c1 := hcu j hlt
          have c2 := hct j hlt
          rw [Nat.zero_add] at c2
          have hge := tWo_ge (g := g) (its := its) (a := a) j
          have l1 : (j : Int) < ((n - 1 : Nat) : Int) := by omega
          have l0 : (0 : Int) ≤ (j : Int) := by omega
          clear hcu hct
          go_wp2
          go_quiet (fail)
          go_wp2
          go_roundw
          case rel => exact ⟨j + 1, _, by omega, by go_num, rfl⟩
          case measure => simp [intOf]; omega
        · go_wp2
          go_ret
          exact ⟨rfl, below_drewN hb27 _⟩
  · have HC := Lib.hid hcode
    have hne : (checkCode n its g != 0) = true := by rw [bne_iff_ne]; exact hcode
    clear hcode
    go_enter Try.func5, Try.ntmps5
    go_wp2_with (first
      | (refine wpList_load_row_w 24 _ rfl w.heap.size rfl rfl 24 (exG g) (0, 0) _ (heap_alloc_new w _) Try.underlying24 rfl (by rw [HS.out]; kernel_rfl) ?_)
      | (go_at_call 8; refine (Times_bad A n c its (exG g) g _ hA1 hn hG HC.out).mono ?_; rintro e w2 ⟨rfl, hb2⟩)
      | (go_at_call 9; refine (fact_any _).mono ?_; rintro e w4 ⟨rfl, hb4⟩))
    go_ret
    exact ⟨rfl, hb0.trans ((hb2.trans (hb4.mono hb2.size)).mono hb0.size)⟩
end Go.Proofs.Ytmdfdjgeaemicaa
