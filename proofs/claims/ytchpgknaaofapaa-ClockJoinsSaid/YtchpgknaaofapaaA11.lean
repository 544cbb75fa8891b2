/- The walk of ClockJoins. -/
import Derived.Test.YtchpgknaaofapaaA10
namespace Go.Proofs.Ytchpgknaaofapaa
open Go.RowKit

def z8 : Array Value := #[.int .i64 0, .int .i64 0, .int .i64 0, .int .i64 0, .int .i64 0, .int .i64 0, .int .i64 0, .int .i64 0]
theorem make8 (W : World) : (Instr.makeSlice 28 (.int .i64 8) (.int .i64 8)).run Try.prog W = .ok (.slice (some ⟨W.heap.size, 0, none⟩) 8 8) (W.alloc (.cells z8 3)) := by kernel_rfl
theorem z8_tab : Tab z8 8 (fun _ => 0) := ⟨rfl, fun s hs => by
  have : s = 0 ∨ s = 1 ∨ s = 2 ∨ s = 3 ∨ s = 4 ∨ s = 5 ∨ s = 6 ∨ s = 7 := by omega
  rcases this with rfl | rfl | rfl | rfl | rfl | rfl | rfl | rfl <;> rfl⟩

theorem cons_vec {l : List Ev} (h : checkE l = 0) {i : Nat} (hi : i < l.length) : ConsAt l (VvE l i) := fun j hj hle s _ => by
  have := (Clk.counted (sa := sa l) (sj := sj l) (rc := rc l) (code_sj h) hj hi hle).2.1 s
  have h2 : VvE l j s ≤ VvE l i s := this
  omega
theorem cons_both {l : List Ev} (h : checkE l = 0) {i k : Nat} (hi : i < l.length) (hk : k < l.length) : ConsAt l (fun s => max (VvE l i s) (VvE l k s)) := fun j hj hle s hs => by
  have hle : VvE l j (sa l j) ≤ max (VvE l i (sa l j)) (VvE l k (sa l j)) := hle
  show VvE l j s ≤ max 0 (max (VvE l i s) (VvE l k s))
  by_cases c : VvE l j (sa l j) ≤ VvE l i (sa l j)
  · have := cons_vec h hi j hj c s hs; omega
  · have := cons_vec h hk j hj (by omega) s hs; omega

def cutN (z : Int) (N : Nat) : Nat := (cutI z 0 ((N : Int) - 1)).toNat
theorem cutN_lt (z : Int) {N : Nat} (h : 1 ≤ N) : cutN z N < N := by
  have := cutI_bd (n := z) (lo := 0) (hi := (N : Int) - 1) (by omega)
  unfold cutN; omega
theorem CutN_any (z : Int) (N : Nat) (W : World) (h : 1 ≤ N) (h2 : N ≤ 1000000) : Calls Try.prog 11 #[.int .i64 z, .int .i64 0, .int .i64 ((N : Int) - 1)] W fun e w' => e = .returned (.int .i64 ((cutN z N : Nat) : Int)) ∧ W = w' := by
  have h3 := cutI_bd (n := z) (lo := 0) (hi := (N : Int) - 1) (by omega)
  have h4 : cutI z 0 ((N : Int) - 1) = ((cutN z N : Nat) : Int) := by unfold cutN; omega
  rw [← h4]
  exact Cut_any z 0 ((N : Int) - 1) W (by omega) (by omega) (by omega)

theorem sl8 {w : World} {g B : Nat} {f : Nat → Int} (h : ∀ s, s < 8 → w.cell? ⟨g, s, none⟩ = some (.int .i64 (f s))) (hg : g < B) : Sl w B 1 (some ⟨g, 0, none⟩) 8 (fun i => [.int .i64 (f i)]) := fun _ =>
  ⟨g, 0, rfl, hg, fun i hi j v hj => by
    have hj0 : j = 0 := by
      rcases Nat.eq_zero_or_pos j with h | h
      · exact h
      · rw [List.getElem?_eq_none (by simp; omega)] at hj; cases hj
    subst hj0
    simp only [List.getElem?_cons_zero, Option.some.injEq] at hj
    rw [← hj, Nat.mul_one, Nat.zero_add, Nat.add_zero]
    exact h i hi⟩

set_option maxRecDepth 100000 in
set_option maxHeartbeats 8000000 in
theorem Joins_any (A : Option Addr) (n c N : Nat) (lf l : List Ev) (x y : Int) (hlf : lf.length = n) (hl : l = lf.take 25) (hN : l.length = N) (w : World) (hA : EvsAt w w.heap.size A lf) (hn : n ≤ c) (hc : c ≤ maxLen) (hnil : A = none → n = 0 ∧ c = 0) :
    Calls Try.prog 6 #[.slice A n c, .int .i64 x, .int .i64 y] w fun e w' => e = .returned (.bool true) ∧ Below w.heap.size w w' := by
  have hA2 : EvsAt w w.heap.size A l := by rw [hl]; exact evs_take hA 25
  have hmin : min (n : Int) 25 = (N : Int) := by rw [← hN, hl, List.length_take, hlf]; omega
  have hNc : N ≤ c := by omega
  have hN0 : (0 : Int) ≤ (N : Int) := by omega
  have hNc' : (N : Int) ≤ (c : Int) := by omega
  have HA := Lib.hid hA2
  have HN := Lib.hid hN
  have hN25 : N ≤ 25 := by omega
  have hcm := hc
  clear hA hA2 hl hlf hN
  have hsl : Hid (∀ W : World, (Instr.slice 22 (.slice A n c) none (some (.int .i64 (N : Int))) none).run Try.prog W = .ok (.slice A N c) W) := by
    refine Lib.hid fun W => ?_
    cases A with
    | none =>
      obtain ⟨rfl, rfl⟩ := hnil rfl
      obtain rfl : N = 0 := by omega
      go_simp
    | some a => go_simp
  have hslo := hsl.out
  unfold maxLen at hcm
  by_cases he : checkE l = 0
  · have hcon := Vectors_ok A c l N HN.out w HA.out hNc hc he
    have HC := Lib.hid he
    clear he
    by_cases h0 : N = 0
    · subst h0
      go_enter Try.func6, Try.ntmps6
      go_wp2_with (first
        | (go_at_call 8; refine hcon.mono ?_; rintro e w1 ⟨O, co, hs, rfl, hV, hb1⟩; clear hV)
        | (go_at_call 9; refine (fact_any _).mono ?_; rintro e w2 ⟨rfl, hb2⟩))
      go_ret
      exact ⟨rfl, hb1.trans (hb2.mono hb1.size)⟩
    · have hN1 : 1 ≤ N := by omega
      have hN0b : ((N : Int) == 0) = false := by simp; omega
      obtain ⟨i, hi⟩ : ∃ i, i = cutN x N := ⟨_, rfl⟩
      obtain ⟨k, hk⟩ : ∃ k, k = cutN y N := ⟨_, rfl⟩
      have hiN : cutN x N < N := cutN_lt x hN1
      have hkN : cutN y N < N := cutN_lt y hN1
      clear hi hk i k
      have hi0 : (0 : Int) ≤ ((cutN x N : Nat) : Int) := by omega
      have hk0 : (0 : Int) ≤ ((cutN y N : Nat) : Int) := by omega
      have hiN' : ((cutN x N : Nat) : Int) < (N : Int) := by omega
      have hkN' : ((cutN y N : Nat) : Int) < (N : Int) := by omega
      have hmk := make8
      have hsub : IntKind.i64.wrap ((N : Int) - 1) = (N : Int) - 1 := IntWalk.i64_in _ (by omega)
      go_enter Try.func6, Try.ntmps6
      go_wp2_with (first
        | (go_at_call 8; refine hcon.mono ?_; rintro e w1 ⟨O, co, hs, rfl, hV, hb1⟩; have HV := Lib.hid hV; clear hV)
        | (go_at_call 9; refine (fact_any _).mono ?_; rintro e w2 ⟨rfl, hb2⟩; have HV2 := Lib.hid (HV.out.below hb2); have hbel2 := hb1.trans (hb2.mono hb1.size)))
      have hV2 := HV2.out
      obtain ⟨go, rfl, hgo, hrows⟩ := hV2.get (by omega)
      obtain ⟨gi, ci, hgi, r1, r2⟩ := hrows _ hiN
      obtain ⟨gk, ck, hgk, r3, r4⟩ := hrows _ hkN
      have R2 := Lib.hid r2
      have R4 := Lib.hid r4
      clear hV2 hrows r2 r4
      go_quiet ((go_at_call 11; exact Calls.quiet_of_same ((CutN_any _ _ _ hN1 (by omega)).mono fun _ _ h => ⟨h.1, h.2.symm⟩)))
      go_wp2
      go_loopw [69] (fun u wr => ∃ (s : Nat) (C : Array Value), s ≤ 8 ∧ u = .int .i64 s ∧ wr.heap[w2.heap.size]? = some (.cells C 3 (0, 0)) ∧ Tab C 8 (fun t => if t < s then max (VvE l (cutN x N) t) (VvE l (cutN y N) t) else 0) ∧ Below w2.heap.size w2 wr ∧ w2.heap.size + 1 ≤ wr.heap.size) (fun u _ => 8 - (intOf u).toNat)
      case atStart =>
        exact ⟨0, z8, by omega, rfl, heap_alloc_new (w2.drewN nq) _, z8_tab.congr (fun s _ => by simp), (below_drewN (Below.refl _ _) nq).alloc (by exact Nat.le_refl _) _, by simp⟩
      case round =>
        obtain ⟨s, C, hs8, rfl, hC, hT, hbr, hz⟩ := hrel
        by_cases hlt8 : s < 8
        · have cI := (hbr.cell (p := ⟨gi, s, none⟩) hgi).trans (R2.out s hlt8)
          have cK := (hbr.cell (p := ⟨gk, s, none⟩) hgk).trans (R4.out s hlt8)
          have hs0 : (0 : Int) ≤ (s : Int) := by omega
          have hs8' : (s : Int) < 8 := by omega
          have hcell := (cell_of_row wr w2.heap.size s C 3 (0, 0) hC).trans (hT.2 s hlt8)
          have hfree := frozen_of_row wr w2.heap.size s C 3 hC
          have hset := (hT.set s (max (VvE l (cutN x N) s) (VvE l (cutN y N) s)) hlt8).congr (g := fun t => if t < s + 1 then max (VvE l (cutN x N) t) (VvE l (cutN y N) t) else 0) (fun t _ => by
            by_cases e : t = s
            · subst e; rw [if_pos rfl, if_pos (by omega)]
            · rw [if_neg e]
              by_cases c : t < s
              · rw [if_pos c, if_pos (by omega)]
              · rw [if_neg c, if_neg (by omega)])
          have hC2 := heap_setCell_same wr w2.heap.size s C 3 (.int .i64 (max (VvE l (cutN x N) s) (VvE l (cutN y N) s))) hC
          have hbr2 := hbr.setCell (p := ⟨w2.heap.size, s, none⟩) (Nat.le_refl _) (.int .i64 (max (VvE l (cutN x N) s) (VvE l (cutN y N) s)))
          have HX := Lib.hid (And.intro hset (And.intro hC2 hbr2))
          have hwl : w2.heap.size < wr.heap.size := by omega
          clear hset hC2 hbr2 hC hT
          generalize VvE l (cutN x N) s = u at *
          generalize VvE l (cutN y N) s = v at *
          go_wp2
          go_still_tail 12, (by kernel_rfl)
          change wpList _ _ _ _ _ wr.drew
          go_wp2
          obtain ⟨hset, hC2, hbr2⟩ := HX.out
          go_roundw
          case rel => exact ⟨s + 1, _, by omega, by go_num, hC2, hset, hbr2.drew, by simp; omega⟩
          case measure => simp [intOf]; omega
        · obtain rfl : s = 8 := by omega
          have hbw := hbel2.trans (hbr.mono hbel2.size)
          have hi' : cutN x N < l.length := by rw [HN.out]; exact hiN
          have hk' : cutN y N < l.length := by rw [HN.out]; exact hkN
          have hcut1 := fun (W : World) (hb : Below wr.heap.size wr W) => Cons_ok A (some ⟨gi, 0, none⟩) c ci l N (VvE l (cutN x N)) HN.out W ((HA.out.below (hbw.trans (hb.mono hbw.size))).more (Nat.le_trans hbw.size hb.size)) hNc hc HC.out
            (sl8 (fun s hs => (hb.cell (p := ⟨gi, s, none⟩) (Nat.lt_of_lt_of_le hgi hbr.size)).trans ((hbr.cell (p := ⟨gi, s, none⟩) hgi).trans (R2.out s hs))) (Nat.lt_of_lt_of_le hgi (Nat.le_trans hbr.size hb.size))) (cons_vec HC.out hi')
          have hcut2 := fun (W : World) (hb : Below wr.heap.size wr W) => Cons_ok A (some ⟨w2.heap.size, 0, none⟩) c 8 l N (fun s => max (VvE l (cutN x N) s) (VvE l (cutN y N) s)) HN.out W ((HA.out.below (hbw.trans (hb.mono hbw.size))).more (Nat.le_trans hbw.size hb.size)) hNc hc HC.out
            (sl8 (fun s hs => (hb.cell (p := ⟨w2.heap.size, s, none⟩) (by exact hz)).trans ((cell_of_row wr w2.heap.size s C 3 (0, 0) hC).trans ((hT.2 s hs).trans (by simp [hs])))) (Nat.lt_of_lt_of_le hz hb.size)) (cons_both HC.out hi' hk')
          have H1 := Lib.hid hcut1
          have H2 := Lib.hid hcut2
          clear hcut1 hcut2 hC hT
          have tok1 : True := trivial
          go_wp2_with (first
            | (go_at_call 16; have _t := tok1; refine (H1.out _ (Below.refl _ _)).mono ?_; rintro e w4 ⟨rfl, hb4⟩; clear tok1)
            | (go_at_call 16; refine (H2.out _ hb4).mono ?_; rintro e w5 ⟨rfl, hb5⟩))
          go_ret
          exact ⟨rfl, hbw.trans ((hb4.trans (hb5.mono hb4.size)).mono hbw.size)⟩
  · have hne : (checkE l != 0) = true := by simp [he]
    have hcon := Vectors_no A c l N HN.out w HA.out hNc hc he
    generalize checkE l = r at *
    clear he
    go_enter Try.func6, Try.ntmps6
    go_wp2_with (first
      | (go_at_call 8; refine hcon.mono ?_; rintro e w1 ⟨rfl, hb1⟩)
      | (go_at_call 9; refine (fact_any _).mono ?_; rintro e w2 ⟨rfl, hb2⟩))
    go_ret
    exact ⟨rfl, hb1.trans (hb2.mono hb1.size)⟩
end Go.Proofs.Ytchpgknaaofapaa
