/- Package screen: the walk of ScreenMoved. -/
import Derived.Test.YtlkdjnmehnibmaaA11
namespace Go.Proofs.Ytlkdjnmehnibmaa
open Go.RowKit

def st1 (v : Nat) (a b : Int) (w : World) : World := (w.setCell ⟨v, 0, none⟩ (.int .i64 a)).setCell ⟨v, 1, none⟩ (.int .i64 b)
theorem st1_same {v : Nat} {a b x y : Int} {w : World} (h : w.heap[v]? = some (.cells #[.int .i64 x, .int .i64 y] 27 (0, 0))) : (st1 v a b w).heap[v]? = some (.cells #[.int .i64 a, .int .i64 b] 27 (0, 0)) := by
  have h1 := heap_setCell_same w v 0 _ 27 (.int .i64 a) h
  exact heap_setCell_same _ v 1 _ 27 (.int .i64 b) h1
theorem st1_other {v u : Nat} {a b : Int} {w : World} (h : u ≠ v) : (st1 v a b w).heap[u]? = w.heap[u]? :=
  (heap_setCell_other _ _ _ _ h).trans (heap_setCell_other _ _ _ _ h)
theorem st1_below {B v : Nat} {a b : Int} {w0 w : World} (h : Below B w0 w) (hv : B ≤ v) : Below B w0 (st1 v a b w) :=
  (h.setCell (p := ⟨v, 0, none⟩) hv _).setCell (p := ⟨v, 1, none⟩) hv _
def st3 (v : Nat) (a b c d e f : Int) : Nat → World → World
  | 0, w => w
  | 1, w => st1 v a b w
  | 2, w => st1 (v + 1) c d (st1 v a b w)
  | _, w => st1 (v + 2) e f (st1 (v + 1) c d (st1 v a b w))

set_option maxRecDepth 100000 in
set_option maxHeartbeats 8000000 in
theorem SMoved_any (x1 y1 x2 y2 x3 y3 : Int) (w : World) :
    Calls Try.prog 6 #[.agg #[.int .i64 x1, .int .i64 y1], .agg #[.int .i64 x2, .int .i64 y2], .agg #[.int .i64 x3, .int .i64 y3]] w fun e w' => e = .returned (.bool true) ∧ Below w.heap.size w w' := by
  have N1 := cutI_bd (n := x1) (show (-40 : Int) ≤ 40 by decide)
  have N2 := cutI_bd (n := y1) (show (-40 : Int) ≤ 40 by decide)
  have N3 := cutI_bd (n := x2) (show (-40 : Int) ≤ 40 by decide)
  have N4 := cutI_bd (n := y2) (show (-40 : Int) ≤ 40 by decide)
  have N5 := cutI_bd (n := x3) (show (-40 : Int) ≤ 40 by decide)
  have N6 := cutI_bd (n := y3) (show (-40 : Int) ≤ 40 by decide)
  have C1 := Lib.hid (fun W => cutC_any x1 y1 W)
  have C2 := Lib.hid (fun W => cutC_any x2 y2 W)
  have C3 := Lib.hid (fun W => cutC_any x3 y3 W)
  generalize cutI x1 (-40) 40 = a at *
  generalize cutI y1 (-40) 40 = b at *
  generalize cutI x2 (-40) 40 = c at *
  generalize cutI y2 (-40) 40 = d at *
  generalize cutI x3 (-40) 40 = mx at *
  generalize cutI y3 (-40) 40 = my at *
  obtain ⟨n, F, hn1, hn2, hFb, hl1, hl2⟩ := Line_move a b c d mx my N1 N2 N3 N4 N5 N6
  have HL1 := Lib.hid hl1
  have HL2 := Lib.hid hl2
  have HFB := Lib.hid hFb
  clear hl1 hl2 hFb
  have w1 : IntKind.i64.wrap (a + mx) = a + mx := IntWalk.i64_in _ (by omega)
  have w2 : IntKind.i64.wrap (b + my) = b + my := IntWalk.i64_in _ (by omega)
  have w3 : IntKind.i64.wrap (c + mx) = c + mx := IntWalk.i64_in _ (by omega)
  have w4 : IntKind.i64.wrap (d + my) = d + my := IntWalk.i64_in _ (by omega)
  have HM := Lib.hid (And.intro N5 N6)
  clear N1 N2 N3 N4 N5 N6
  obtain ⟨v, hv⟩ : ∃ v, w.heap.size = v := ⟨_, rfl⟩
  obtain ⟨W0, hW0, g0, g1, g2, hb0, hs0⟩ : ∃ W0, ((w.alloc (.cells #[.int .i64 x1, .int .i64 y1] 27)).alloc (.cells #[.int .i64 x2, .int .i64 y2] 27)).alloc (.cells #[.int .i64 x3, .int .i64 y3] 27) = W0 ∧ W0.heap[v]? = some (.cells #[.int .i64 x1, .int .i64 y1] 27 (0, 0)) ∧ W0.heap[v + 1]? = some (.cells #[.int .i64 x2, .int .i64 y2] 27 (0, 0)) ∧ W0.heap[v + 2]? = some (.cells #[.int .i64 x3, .int .i64 y3] 27 (0, 0)) ∧ Below v w W0 ∧ v + 2 < W0.heap.size := by
    refine ⟨_, rfl, ?_, ?_, ?_, (((Below.refl v w).alloc (by omega) _).alloc (by simp; omega) _).alloc (by simp; omega) _, by simp <;> omega⟩
    · exact (Below.heap_alloc _ _ v (by simp <;> omega)).trans ((Below.heap_alloc _ _ v (by simp <;> omega)).trans (by rw [← hv]; exact heap_alloc_new w _))
    · exact (Below.heap_alloc _ _ (v + 1) (by simp <;> omega)).trans (by have := heap_alloc_new (w.alloc (.cells #[.int .i64 x1, .int .i64 y1] 27)) (.cells #[.int .i64 x2, .int .i64 y2] 27); simpa [hv] using this)
    · have := heap_alloc_new ((w.alloc (.cells #[.int .i64 x1, .int .i64 y1] 27)).alloc (.cells #[.int .i64 x2, .int .i64 y2] 27)) (.cells #[.int .i64 x3, .int .i64 y3] 27)
      simpa [hv] using this
  have HG := Lib.hid (And.intro g0 (And.intro g1 (And.intro g2 hb0)))
  go_enter Try.func6, Try.ntmps6
  go_wp2
  generalize hWX : World.alloc _ _ = WX
  have hWX2 : WX = W0 := by rw [← hWX, ← hW0]
  subst hWX2
  clear g0 g1 g2 hb0 hW0 hWX
  refine Dr.region (fun k w' => ∃ w5, Below WX.heap.size WX w5 ∧ w' = st3 v a b c d mx my k w5) [9, 10, 11] [(0, 0, false), (0, 0, false), (0, 0, false), (0, 0, false), (0, 0, false), (0, 0, false), (0, 0, false), (0, 0, false), (0, 0, false), (0, 0, true), (1, 1, true), (2, 2, true)] 3 (by kernel_rfl) (by kernel_rfl) (by kernel_rfl) (by kernel_rfl) ⟨WX.drew, (Below.refl _ WX).drew, rfl⟩ ?_
  apply Dr.cons
  · intro k hk1 hk2 w' hw K hK
    obtain rfl : k = 0 := by omega
    go_simp
    exact hK _ hw
  · exact ⟨_, rfl⟩
  apply Dr.cons
  · intro k hk1 hk2 w' hw K hK
    obtain rfl : k = 0 := by omega
    have hw2 : Below WX.heap.size WX w' := by obtain ⟨w5, h5, rfl⟩ := hw; exact h5
    have t0 : w'.cell? ⟨v, 0, none⟩ = some (.int .i64 x1) := (hw2.cell (p := ⟨v, 0, none⟩) (by show v < WX.heap.size; omega)).trans (cell_of_row WX (v) 0 _ 27 (0, 0) HG.out.1)
    have t1 : w'.cell? ⟨v, 1, none⟩ = some (.int .i64 y1) := (hw2.cell (p := ⟨v, 1, none⟩) (by show v < WX.heap.size; omega)).trans (cell_of_row WX (v) 1 _ 27 (0, 0) HG.out.1)
    go_simp
    exact hK _ hw
  · exact ⟨_, rfl⟩
  apply Dr.cons
  · intro k hk1 hk2 w' hw K hK
    obtain rfl : k = 0 := by omega
    have hw2 : Below WX.heap.size WX w' := by obtain ⟨w5, h5, rfl⟩ := hw; exact h5
    go_simp
    refine (C1.out w').mono ?_
    rintro e w5 ⟨rfl, hb5⟩
    exact hK _ ⟨w5, hw2.trans (hb5.mono hw2.size), rfl⟩
  · exact ⟨_, rfl⟩
  apply Dr.cons
  · intro k hk1 hk2 w' hw K hK
    obtain rfl : k = 0 := by omega
    go_simp
    exact hK _ hw
  · exact ⟨_, rfl⟩
  apply Dr.cons
  · intro k hk1 hk2 w' hw K hK
    obtain rfl : k = 0 := by omega
    have hw2 : Below WX.heap.size WX w' := by obtain ⟨w5, h5, rfl⟩ := hw; exact h5
    have t0 : w'.cell? ⟨v + 1, 0, none⟩ = some (.int .i64 x2) := (hw2.cell (p := ⟨v + 1, 0, none⟩) (by show v + 1 < WX.heap.size; omega)).trans (cell_of_row WX (v + 1) 0 _ 27 (0, 0) HG.out.2.1)
    have t1 : w'.cell? ⟨v + 1, 1, none⟩ = some (.int .i64 y2) := (hw2.cell (p := ⟨v + 1, 1, none⟩) (by show v + 1 < WX.heap.size; omega)).trans (cell_of_row WX (v + 1) 1 _ 27 (0, 0) HG.out.2.1)
    go_simp
    exact hK _ hw
  · exact ⟨_, rfl⟩
  apply Dr.cons
  · intro k hk1 hk2 w' hw K hK
    obtain rfl : k = 0 := by omega
    have hw2 : Below WX.heap.size WX w' := by obtain ⟨w5, h5, rfl⟩ := hw; exact h5
    go_simp
    refine (C2.out w').mono ?_
    rintro e w5 ⟨rfl, hb5⟩
    exact hK _ ⟨w5, hw2.trans (hb5.mono hw2.size), rfl⟩
  · exact ⟨_, rfl⟩
  apply Dr.cons
  · intro k hk1 hk2 w' hw K hK
    obtain rfl : k = 0 := by omega
    go_simp
    exact hK _ hw
  · exact ⟨_, rfl⟩
  apply Dr.cons
  · intro k hk1 hk2 w' hw K hK
    obtain rfl : k = 0 := by omega
    have hw2 : Below WX.heap.size WX w' := by obtain ⟨w5, h5, rfl⟩ := hw; exact h5
    have t0 : w'.cell? ⟨v + 2, 0, none⟩ = some (.int .i64 x3) := (hw2.cell (p := ⟨v + 2, 0, none⟩) (by show v + 2 < WX.heap.size; omega)).trans (cell_of_row WX (v + 2) 0 _ 27 (0, 0) HG.out.2.2.1)
    have t1 : w'.cell? ⟨v + 2, 1, none⟩ = some (.int .i64 y3) := (hw2.cell (p := ⟨v + 2, 1, none⟩) (by show v + 2 < WX.heap.size; omega)).trans (cell_of_row WX (v + 2) 1 _ 27 (0, 0) HG.out.2.2.1)
    go_simp
    exact hK _ hw
  · exact ⟨_, rfl⟩
  apply Dr.cons
  · intro k hk1 hk2 w' hw K hK
    obtain rfl : k = 0 := by omega
    have hw2 : Below WX.heap.size WX w' := by obtain ⟨w5, h5, rfl⟩ := hw; exact h5
    go_simp
    refine (C3.out w').mono ?_
    rintro e w5 ⟨rfl, hb5⟩
    exact hK _ ⟨w5, hw2.trans (hb5.mono hw2.size), rfl⟩
  · exact ⟨_, rfl⟩
  apply Dr.cons
  · intro k hk1 hk2 w' hw K hK
    obtain rfl : k = 0 := by omega
    obtain ⟨w5, h5, hw5⟩ := hw
    have hg : w'.heap[v]? = some (.cells #[.int .i64 x1, .int .i64 y1] 27 (0, 0)) := by rw [hw5]; exact (h5.block v (by omega)).trans HG.out.1
    have t0 := cell_of_row w' (v) 0 _ 27 (0, 0) hg
    have t1 := cell_of_row w' (v) 1 _ 27 (0, 0) hg
    have f0 := frozen_of_row w' (v) 0 _ 27 hg
    have f1 := frozen_of_row w' (v) 1 _ 27 hg
    have HW5 := Lib.hid hw5
    clear hw5
    go_simp
    exact hK _ ⟨w5, h5, by rw [HW5.out]; rfl⟩
  · exact ⟨.int .i64 0, rfl⟩
  apply Dr.cons
  · intro k hk1 hk2 w' hw K hK
    obtain rfl : k = 1 := by omega
    obtain ⟨w5, h5, hw5⟩ := hw
    have hg : w'.heap[v + 1]? = some (.cells #[.int .i64 x2, .int .i64 y2] 27 (0, 0)) := by rw [hw5]; exact (st1_other (by omega)).trans ((h5.block (v + 1) (by omega)).trans HG.out.2.1)
    have t0 := cell_of_row w' (v + 1) 0 _ 27 (0, 0) hg
    have t1 := cell_of_row w' (v + 1) 1 _ 27 (0, 0) hg
    have f0 := frozen_of_row w' (v + 1) 0 _ 27 hg
    have f1 := frozen_of_row w' (v + 1) 1 _ 27 hg
    have HW5 := Lib.hid hw5
    clear hw5
    go_simp
    exact hK _ ⟨w5, h5, by rw [HW5.out]; rfl⟩
  · exact ⟨.int .i64 0, rfl⟩
  apply Dr.cons
  · intro k hk1 hk2 w' hw K hK
    obtain rfl : k = 2 := by omega
    obtain ⟨w5, h5, hw5⟩ := hw
    have hg : w'.heap[v + 2]? = some (.cells #[.int .i64 x3, .int .i64 y3] 27 (0, 0)) := by rw [hw5]; exact (st1_other (by omega)).trans ((st1_other (by omega)).trans ((h5.block (v + 2) (by omega)).trans HG.out.2.2.1))
    have t0 := cell_of_row w' (v + 2) 0 _ 27 (0, 0) hg
    have t1 := cell_of_row w' (v + 2) 1 _ 27 (0, 0) hg
    have f0 := frozen_of_row w' (v + 2) 0 _ 27 hg
    have f1 := frozen_of_row w' (v + 2) 1 _ 27 hg
    have HW5 := Lib.hid hw5
    clear hw5
    go_simp
    exact hK _ ⟨w5, h5, by rw [HW5.out]; rfl⟩
  · exact ⟨.int .i64 0, rfl⟩
  intro w' hw'
  obtain ⟨w5, h5, hw5⟩ := hw'
  have gA : w'.heap[v]? = some (.cells #[.int .i64 a, .int .i64 b] 27 (0, 0)) := by
    rw [hw5]
    exact (st1_other (by omega)).trans ((st1_other (by omega)).trans (st1_same ((h5.block v (by omega)).trans HG.out.1)))
  have gB : w'.heap[v + 1]? = some (.cells #[.int .i64 c, .int .i64 d] 27 (0, 0)) := by
    rw [hw5]
    exact (st1_other (by omega)).trans (st1_same ((st1_other (by omega)).trans ((h5.block (v + 1) (by omega)).trans HG.out.2.1)))
  have gC : w'.heap[v + 2]? = some (.cells #[.int .i64 mx, .int .i64 my] 27 (0, 0)) := by
    rw [hw5]
    exact st1_same ((st1_other (by omega)).trans ((st1_other (by omega)).trans ((h5.block (v + 2) (by omega)).trans HG.out.2.2.1)))
  have hbw : Below v w w' := by
    rw [hw5]
    exact st1_below (st1_below (st1_below (HG.out.2.2.2.trans (h5.mono (by omega))) (Nat.le_refl v)) (by omega)) (by omega)
  have hlt : v + 2 < w'.heap.size := (Array.getElem?_eq_some_iff.1 gC).1
  have HBW := Lib.hid hbw
  clear h5 hw5 HG C1 C2 C3 hbw hs0
  have k0 : w'.cell? ⟨v, 0, none⟩ = some (.int .i64 a) := cell_of_row w' v 0 _ 27 (0, 0) gA
  have k1 : w'.cell? ⟨v, 1, none⟩ = some (.int .i64 b) := cell_of_row w' v 1 _ 27 (0, 0) gA
  have k2 : w'.cell? ⟨v + 1, 0, none⟩ = some (.int .i64 c) := cell_of_row w' (v + 1) 0 _ 27 (0, 0) gB
  have k3 : w'.cell? ⟨v + 1, 1, none⟩ = some (.int .i64 d) := cell_of_row w' (v + 1) 1 _ 27 (0, 0) gB
  have k4 : w'.cell? ⟨v + 2, 0, none⟩ = some (.int .i64 mx) := cell_of_row w' (v + 2) 0 _ 27 (0, 0) gC
  have k5 : w'.cell? ⟨v + 2, 1, none⟩ = some (.int .i64 my) := cell_of_row w' (v + 2) 1 _ 27 (0, 0) gC
  have hl0 : v < w'.heap.size := by omega
  have hl1 : v + 1 < w'.heap.size := by omega
  have tok1 : True := trivial
  have tok2 : True := trivial
  clear gA gB gC
  go_wp2_with (first
    | (go_at_call 15; have _t := tok1; go_loud ((refine (HL1.out _).mono ?_); rintro e w6 ⟨L, cl, rfl, hown1, hb1⟩; have HO1 := Lib.hid hown1; obtain ⟨hc1, hf1⟩ := bcell hb1; have HB1 := Lib.hid hb1; clear hown1 hb1 tok1))
    | (go_at_call 15; have _t := tok2; go_loud ((refine (HL2.out _).mono ?_); rintro e w7 ⟨M, cm, rfl, hown2, hb2⟩; have HO2 := Lib.hid hown2; have HB2 := Lib.hid hb2; clear hown2 hb2 tok2)))
  obtain ⟨A, hA⟩ : ∃ A : Nat → Int × Int, (fun i => ((F i).1 + mx, (F i).2 + my)) = A := ⟨_, rfl⟩
  rw [hA] at HO2
  have hAk : ∀ k, (A k).1 = (F k).1 + mx ∧ (A k).2 = (F k).2 + my := fun k => by rw [← hA]; exact ⟨rfl, rfl⟩
  have HA := Lib.hid hAk
  have hm0 : mixG A F 0 = ptRow F := by funext i; simp [mixG]
  have HO3 := Lib.hid (own_below HO1.out HB2.out (Nat.le_refl _))
  rw [← hm0] at HO3
  have hz6 := HB1.out.size
  have hz7 := HB2.out.size
  have HB7 := Lib.hid (HB1.out.trans (HB2.out.mono hz6))
  have HK := Lib.hid (And.intro k4 k5)
  clear hA hAk hm0 hc1 hf1 k0 k1 k2 k3 k4 k5 w1 w2 w3 w4
  go_loopw [56] (fun x wr => ∃ k : Nat, k ≤ n ∧ x = .int .i64 k ∧ wr.ownsRow w'.heap.size 27 2 (.slice L n cl) n (flatR (mixG A F k) n) ∧ wr.ownsRow w6.heap.size 27 2 (.slice M n cm) n (flatR (ptRow A) n) ∧ Below w'.heap.size w' wr) (fun x _ => n - (intOf x).toNat)
  case atStart => exact ⟨0, by omega, rfl, HO3.out, HO2.out, HB7.out⟩
  case round =>
    obtain ⟨k, hk, rfl, hown, hownM, hbr⟩ := hrel
    have HOW := Lib.hid hown
    have HOM := Lib.hid hownM
    have HBR := Lib.hid hbr
    have hzr := hbr.size
    by_cases hkn : k < n
    · obtain ⟨g, cap, hlv, hgl, hltl⟩ := hown.form (by omega)
      obtain rfl : L = some ⟨g, 0, none⟩ := (Value.slice.inj hlv).1
      have hg6 : g < w6.heap.size := (HO1.out.lt g rfl).2
      have hl2 : ∀ i, i < n → (mixG A F k i).length = 2 := fun i _ => mixG_len A F k i
      have hrow : mixG A F k k = [.int .i64 (F k).1, .int .i64 (F k).2] := by simp [mixG, ptRow]
      have o0 : wr.cell? ⟨g, k * 2, none⟩ = some (.int .i64 (F k).1) := (hown.cellAt (k * 2) (by omega)).trans (by rw [show k * 2 = k * 2 + 0 from rfl, flatR_get n hl2 k 0 hkn (by omega), hrow]; rfl)
      have o1 : wr.cell? ⟨g, k * 2 + 1, none⟩ = some (.int .i64 (F k).2) := (hown.cellAt (k * 2 + 1) (by omega)).trans (by rw [flatR_get n hl2 k 1 hkn (by omega), hrow]; rfl)
      have f0 := hown.frozenAt (k * 2)
      have f1 := hown.frozenAt (k * 2 + 1)
      have j0 := (hbr.cell (p := ⟨v + 2, 0, none⟩) hlt).trans HK.out.1
      have j1 := (hbr.cell (p := ⟨v + 2, 1, none⟩) hlt).trans HK.out.2
      have hgv : v + 2 ≠ g := by omega
      have hk0 : (0 : Int) ≤ (k : Int) := by omega
      have hkn' : (k : Int) < (n : Int) := by omega
      obtain ⟨⟨b1, b2⟩, b3, b4⟩ := HFB.out k hkn
      obtain ⟨⟨m1, m2⟩, m3, m4⟩ := HM.out
      have s1 : IntKind.i64.wrap ((F k).1 + mx) = (F k).1 + mx := IntWalk.i64_in _ (by omega)
      have s2 : IntKind.i64.wrap ((F k).2 + my) = (F k).2 + my := IntWalk.i64_in _ (by omega)
      have hms := mixG_set A F hkn
      rw [(HA.out k).1, (HA.out k).2] at hms
      have HMS := Lib.hid hms
      generalize (F k).1 = p1 at *
      generalize (F k).2 = p2 at *
      clear hlv hown hownM hbr hl2 hrow b1 b2 b3 b4 m1 m2 m3 m4 hms
      go_wp2
      go_still_tail 10, (by kernel_rfl)
      change wpList _ _ _ _ _ wr.drew
      go_wp2
      obtain ⟨W8, hW8, o1', f1', j1', hr8, hm8, hb8⟩ : ∃ W8, (wr.setCell ⟨g, k * 2, none⟩ (.int .i64 (p1 + mx))).drew = W8 ∧ W8.cell? ⟨g, k * 2 + 1, none⟩ = some (.int .i64 p2) ∧ W8.frozen? ⟨g, k * 2 + 1, none⟩ = false ∧ W8.cell? ⟨v + 2, 1, none⟩ = some (.int .i64 my) ∧ Hid (W8.ownsRow w'.heap.size 27 2 (.slice (some ⟨g, 0, none⟩) n cl) n ((flatR (mixG A F k) n).set (k * 2) (.int .i64 (p1 + mx)))) ∧ Hid (W8.ownsRow w6.heap.size 27 2 (.slice M n cm) n (flatR (ptRow A) n)) ∧ Hid (Below w'.heap.size w' W8) := by
        have h0 := (World.ownsRow.stored HOW.out (k * 2) (.int .i64 (p1 + mx))).1
        have hb := HBR.out.setCell (p := ⟨g, k * 2, none⟩) hgl (.int .i64 (p1 + mx))
        refine ⟨_, rfl, ?_, h0.frozenAt (k * 2 + 1), (hb.cell (p := ⟨v + 2, 1, none⟩) hlt).trans HK.out.2, Lib.hid h0, Lib.hid (HOM.out.kept (grown_setCell _ _ _ _) (own_ne HOM.out hg6)).drew, Lib.hid hb.drew⟩
        have := h0.cellAt (k * 2 + 1) (by omega)
        refine this.trans ?_
        rw [List.getElem?_set_ne (by omega)]
        exact (HOW.out.cellAt (k * 2 + 1) (by omega)).symm.trans o1
      rw [hW8]
      clear o0 o1 f0 f1 j0 j1 hW8
      go_still_tail 10, (by kernel_rfl)
      change wpList _ _ _ _ _ W8.drew
      go_wp2
      go_roundw
      case rel =>
        have h1 := (World.ownsRow.stored hr8.out (k * 2 + 1) (.int .i64 (p2 + my))).1
        rw [HMS.out] at h1
        exact ⟨k + 1, by omega, by go_num, h1, (hm8.out.kept (grown_setCell _ _ _ _) (own_ne hm8.out hg6)).drew, (hb8.out.setCell (p := ⟨g, k * 2 + 1, none⟩) hgl _).drew⟩
      case measure => simp [intOf]; omega
    · obtain rfl : k = n := by omega
      have HLr : Hid (Sl wr wr.heap.size 2 L k (ptRow A)) := Lib.hid ((Sl_flat (fun i _ => mixG_len A F k i) hown).congr fun i hi => by unfold mixG; rw [if_pos hi])
      have HMr : Hid (Sl wr wr.heap.size 2 M k (ptRow A)) := Lib.hid (Sl_flat (fun _ _ => rfl) hownM)
      have hk0 : (0 : Int) < (k : Int) := by omega
      have hk1 : 0 < k := by omega
      have hk2 : decide (0 < k) = true := decide_eq_true hk1
      clear hown hownM hbr
      go_wp2_with (first
        | (go_at_call 10; go_loud (refine (fact_any _).mono ?_; rintro e w8 ⟨rfl, hb8⟩))
        | (go_at_call 16; go_loud (refine (EqualC L M A k cl cm w8.heap.size w8 ((HLr.out.below hb8).more hb8.size) ((HMr.out.below hb8).more hb8.size) (by omega)).mono ?_; rintro e w9 ⟨rfl, q9, rfl⟩)))
      go_ret
      refine ⟨rfl, ?_⟩
      rw [hv]
      exact HBW.out.trans ((HBR.out.trans ((below_drewN hb8 q9).mono hzr)).mono (by omega))
end Go.Proofs.Ytlkdjnmehnibmaa
