/- Package mailbox: Force, where a less urgent message goes. -/
import Derived.Test.YtblcgmihdgnhbaaC2
namespace Go.Proofs.Ytblcgmihdgnhbaa
open Go.RowKit

theorem slice_some {b c : Nat} (n q : Nat) (hq : q ≤ n) (hn : n ≤ c) (W : World) : (Instr.slice 22 (.slice (some ⟨b, 0, none⟩) n c) none (some (.int .i64 (q : Int))) none).run Try.prog W = .ok (.slice (some ⟨b, 0, none⟩) q c) W := by
  have h0 : (0 : Int) ≤ (q : Int) := by omega
  have h1 : (q : Int) ≤ (c : Int) := by omega
  go_simp

theorem own_last {w : World} {base n : Nat} {v : Value} {xs : List Int} {y : Int} (h : w.ownsRow base 3 1 v n (intsV (xs ++ [y]))) (hn : n = xs.length + 1) :
    ∃ b c, v = .slice (some ⟨b, 0, none⟩) (xs.length + 1) c ∧ w.cell? ⟨b, xs.length, none⟩ = some (.int .i64 y) ∧ w.frozen? ⟨b, xs.length, none⟩ = false ∧ base ≤ b ∧ b < w.heap.size ∧ xs.length + 1 ≤ c ∧ c ≤ maxLen := by
  subst hn
  obtain ⟨b, c, hv, hb, hl⟩ := h.form (by omega)
  subst hv
  have hc := own_cur h
  obtain ⟨cur, hg, _, h1, h2, _, _⟩ := hc
  have := h.cells (g := b) rfl xs.length (.int .i64 y) (by simp [intsV])
  rw [Addr.add_mid, Nat.zero_add] at this
  exact ⟨b, c, rfl, this, frozen_of_row _ _ _ _ _ hg, hb, hl, h1, h2⟩

set_option maxRecDepth 100000 in
set_option maxHeartbeats 4000000 in
theorem Force_out {g : Nat} {sz cnt : Int} {vs : Nat → Value} {ls : Nat → List Int} {C : Array Value} {w : World} (h : BoxAt g sz cnt vs ls C w) (p k : Nat) (x y : Int) (xs : List Int) (hp : p < 8) (hkp : k < p) (hc : cnt = sz) (he : ∀ q, q < k → ls q = []) (hk : ls k = xs ++ [y])
    (hc0 : 1 ≤ cnt) (hc1 : cnt ≤ 1000) (hl : (ls p).length ≤ 1000) (hlk : xs.length ≤ 1000) :
    Calls Try.prog 14 #[.pointer (some ⟨g, 0, none⟩), .int .i64 (p : Int), .int .i64 x] w fun e w' =>
      ∃ vs' C', e = .returned (.tuple #[.int .i64 y, .bool true, .int .i64 0]) ∧ BoxAt g sz cnt vs' (upd (upd ls k xs) p (ls p ++ [x])) C' w' ∧ Below g w w' ∧ OffBox g vs w w' := by
  have HP := Lib.hid (Put_full h p x (by omega) (by omega) hc)
  have HB := Lib.hid h
  have HE := Lib.hid he
  have HK := Lib.hid hk
  have HC := Lib.hid hc
  have hg := h.lt
  clear h hc he hk
  go_enter Try.func14, Try.ntmps14
  go_wp2_with (go_at_call 8; refine HP.out.mono ?_; rintro e w1 ⟨rfl, q1, rfl⟩)
  go_loopw [11, 12, 23] (fun _ _ i wr => ∃ j : Nat, j ≤ k ∧ i = .int .i64 (j : Int) ∧ wr = w.drewN q1) (fun _ _ i _ => p - (intOf i).toNat)
  case atStart => exact ⟨0, by omega, rfl, rfl⟩
  case round =>
    obtain ⟨j, hj, rfl, rfl⟩ := hrel
    have hj8 : j < 8 := by omega
    have hjp : j < p := by omega
    have hj0 : (0 : Int) ≤ (j : Int) := by omega
    have hj8' : (j : Int) < 8 := by omega
    have hjw : IntKind.i64.wrap ((j : Int) + 1) = (j : Int) + 1 := IntWalk.i64_in _ (by omega)
    by_cases hlt : j < k
    · obtain ⟨A, cj, hvj⟩ := own_shape (HB.out.own j hj8)
      have ccj := (HB.out.cell (2 + j)).trans ((HB.out.cv j hj8).trans (congrArg some hvj))
      have hlen : (ls j).length = 0 := by rw [HE.out j hlt]; rfl
      rw [hlen] at ccj
      clear hvj hlen
      go_wp2
      go_roundw
      case rel => exact ⟨j + 1, by omega, by go_num, trivial⟩
      case measure => simp [intOf]; omega
    · obtain rfl : j = k := by omega
      have hown := HB.out.own j hj8
      rw [HK.out] at hown
      obtain ⟨b, c, hv, cy, fy, hb, hbl, hcn, hcm⟩ := own_last hown (by simp)
      rw [hv] at hown
      have HO := Lib.hid hown
      have HV := Lib.hid hv
      obtain ⟨m, hm⟩ : ∃ m, xs.length = m := ⟨_, rfl⟩
      have ccj := (HB.out.cell (2 + j)).trans ((HB.out.cv j hj8).trans (congrArg some hv))
      rw [hm] at ccj cy fy hlk hcn
      have HM := Lib.hid hm
      have fcj := HB.out.frozen (2 + j)
      have c1 := (HB.out.cell 1).trans HB.out.c1
      have f1 := HB.out.frozen 1
      have hbg : ¬ b = g := by omega
      have hgb : ¬ g = b := by omega
      have n1 : (1 : Nat) ≠ 2 + j := by omega
      have hwc : IntKind.i64.wrap (cnt - 1) = cnt - 1 := IntWalk.i64_in _ (by omega)
      unfold maxLen at hcm
      clear hown hv hm hlt
      go_wp2
      have hgr2 : w.grownBy ((w.drewN q1).setCell ⟨b, m, none⟩ (.int .i64 0)) (some b) := by
        have G := grown_setCell (w.drewN q1) b m (.int .i64 0)
        exact ⟨G.os, G.tape, G.output, G.size, G.block⟩
      have hown2 : ((w.drewN q1).setCell ⟨b, m, none⟩ (.int .i64 0)).ownsRow (g + 1) 3 1 (.slice (some ⟨b, 0, none⟩) m c) m (intsV xs) := by
        have h1 := HO.out
        rw [show (xs ++ [y]).length = xs.length + 1 by simp, HM.out] at h1
        refine own_shrink (y := .int .i64 y) (xs := intsV xs) (w := w.drewN q1) ?_ (by simp [intsV, HM.out]) _
        rw [intsV_snoc]; exact h1
      obtain ⟨W2, hW2⟩ : ∃ W2, (w.drewN q1).setCell ⟨b, m, none⟩ (.int .i64 0) = W2 := ⟨_, rfl⟩
      rw [hW2] at hgr2 hown2 ⊢
      have hh2 : W2.heap[g]? = some (.cells C 47 (0, 0)) := (hgr2.block g hg (fun e => hgb (by cases e; rfl))).trans HB.out.blk
      have d1 := (cell_of_row W2 g 1 C 47 (0, 0) hh2).trans HB.out.c1
      have dj := (cell_of_row W2 g (2 + j) C 47 (0, 0) hh2).trans ((HB.out.cv j hj8).trans (congrArg some HV.out))
      rw [HM.out] at dj
      have e1 := frozen_of_row W2 g 1 C 47 hh2
      have ej := frozen_of_row W2 g (2 + j) C 47 hh2
      have H2 := Lib.hid (And.intro hgr2 hown2)
      clear hW2 hgr2 hown2 hh2 cy fy ccj fcj c1 f1
      have hgr3 : w.grownBy W2 (vs j).ownBlock := by rw [HV.out]; exact H2.out.1
      have T := HB.out.turn j hj8 (w3 := W2) (v3 := .slice (some ⟨b, 0, none⟩) m c) (l3 := xs) (by rw [HM.out]; exact H2.out.2) hgr3 (fun q hq hqp => by have hA := HB.out.apart j q hj8 hq (fun e => hqp e.symm); rw [HV.out] at hA; exact hA) (cnt - 1) 1
      have T2 := HB.out.turn_off j hj8 (w3 := W2) hgr3 (.slice (some ⟨b, 0, none⟩) m c) (cnt - 1) 1
      obtain ⟨W3, hW3⟩ : ∃ W3, ((W2.setCell ⟨g, 2 + j, none⟩ (.slice (some ⟨b, 0, none⟩) m c)).setCell ⟨g, 1, none⟩ (.int .i64 (cnt - 1))).drew = W3 := ⟨_, rfl⟩
      have hW3' : (((W2.setCell ⟨g, 2 + j, none⟩ (.slice (some ⟨b, 0, none⟩) m c)).drewN 1).setCell ⟨g, 1, none⟩ (.int .i64 (cnt - 1))) = W3 := hW3
      rw [hW3'] at T T2
      have hpj : upd ls j xs p = ls p := upd_ne _ _ (by omega)
      have hPut := Put_fr T.1 p x hp (by have := HC.out; omega) (by omega) (by omega) (by rw [hpj]; exact hl)
      unfold PutP at hPut
      rw [hpj, show cnt - 1 + 1 = cnt by omega] at hPut
      have HPut := Lib.hid hPut
      have HT := Lib.hid (And.intro T.2 T2)
      have HW3 := Lib.hid hW3
      clear hW3' hPut T T2 hpj hgr3 hW3
      have hsl := fun W => slice_some (b := b) (c := c) (m + 1) m (by omega) hcn W
      have hms : IntKind.i64.wrap (m : Int) = (m : Int) := IntWalk.i64_in _ (by omega)
      go_still_tail 14, (by kernel_rfl)
      change wpList _ _ _ _ _ W2.drew
      go_wp2_with (go_at_call 8; rw [HW3.out]; refine HPut.out.mono ?_; rintro e w5 ⟨vs5, C5, rfl, hB5, hb5, ho5⟩)
      go_ret3
      refine ⟨_, _, rfl, hB5, HT.out.1.trans hb5, fun k hk hkg hq => ?_⟩
      have h1 := HT.out.2 k hk hkg hq
      have hs3 : w.heap.size ≤ W3.heap.size := HT.out.1.size
      refine (ho5 k (by omega) hkg (fun q hq8 e => hq q hq8 ?_)).trans h1
      rw [← own_same (b := .slice (some ⟨b, 0, none⟩) m c) HV.out rfl q]; exact e
end Go.Proofs.Ytblcgmihdgnhbaa
