/- Package screen: the walk of ScreenShifted. -/
import Derived.Test.YtlkdjnmehnibmaaG5
import Derived.Deep.RegionHeld3
namespace Go.Proofs.Ytlkdjnmehnibmaa
open Go.RowKit

/-- The boxed view and the boxed vector. -/
def VW (v : Nat) (row : Array Value) (bx bY : Int) (w w' : World) : Prop :=
  w'.heap[v]? = some (.cells row 25 (0, 0)) ∧ w'.heap[v + 1]? = some (.cells #[.int .i64 bx, .int .i64 bY] 23 (0, 0)) ∧ Below v w w' ∧ v + 1 < w'.heap.size
theorem VW.drew {v : Nat} {row : Array Value} {bx bY : Int} {w w' : World} (h : VW v row bx bY w w') : VW v row bx bY w w'.drew := ⟨h.1, h.2.1, h.2.2.1.drew, h.2.2.2⟩
theorem VW.below {v : Nat} {row : Array Value} {bx bY : Int} {w w' w'' : World} (h : VW v row bx bY w w') (hb : Below w'.heap.size w' w'') : VW v row bx bY w w'' := by
  obtain ⟨h1, h2, h3, h4⟩ := h
  exact ⟨(hb.block v (by omega)).trans h1, (hb.block (v + 1) (by omega)).trans h2, h3.trans (hb.mono (by omega)), Nat.lt_of_lt_of_le h4 hb.size⟩
theorem VW.set {v : Nat} {row : Array Value} {bx bY : Int} {w w' : World} (h : VW v row bx bY w w') (i : Nat) (x : Value) : VW v (row.setIfInBounds i x) bx bY w (w'.setCell ⟨v, i, none⟩ x) := by
  obtain ⟨h1, h2, h3, h4⟩ := h
  exact ⟨heap_setCell_same w' v i _ 25 x h1, (heap_setCell_other _ _ _ _ (by show v + 1 ≠ v; omega)).trans h2, h3.setCell (p := ⟨v, i, none⟩) (Nat.le_refl _) _, by simpa [World.setCell] using h4⟩
theorem setVW1 {v : Nat} {row : Array Value} {x y : Int} {w w' : World} (h : VW v row x y w w') (x' : Int) : VW v row x' y w (w'.setCell ⟨v + 1, 0, none⟩ (.int .i64 x')) := by
  obtain ⟨h1, h2, h3, h4⟩ := h
  exact ⟨(heap_setCell_other _ _ _ _ (by show v ≠ v + 1; omega)).trans h1, heap_setCell_same w' (v + 1) 0 _ 23 (.int .i64 x') h2, h3.setCell (p := ⟨v + 1, 0, none⟩) (by show v ≤ v + 1; omega) _, by simpa [World.setCell] using h4⟩
theorem setVW2 {v : Nat} {row : Array Value} {x y : Int} {w w' : World} (h : VW v row x y w w') (y' : Int) : VW v row x y' w (w'.setCell ⟨v + 1, 1, none⟩ (.int .i64 y')) := by
  obtain ⟨h1, h2, h3, h4⟩ := h
  exact ⟨(heap_setCell_other _ _ _ _ (by show v ≠ v + 1; omega)).trans h1, heap_setCell_same w' (v + 1) 1 _ 23 (.int .i64 y') h2, h3.setCell (p := ⟨v + 1, 1, none⟩) (by show v ≤ v + 1; omega) _, by simpa [World.setCell] using h4⟩
/-- The view's cells while they are written. -/
def rw4 (cx cy cx0 cy0 sc wd0 ht0 wd ht : Int) : Nat → Array Value
  | 0 => #[.int .i64 cx, .int .i64 cy, .int .i64 sc, .int .i64 wd, .int .i64 ht]
  | 1 => #[.int .i64 cx0, .int .i64 cy0, .int .i64 sc, .int .i64 wd, .int .i64 ht]
  | 2 => #[.int .i64 cx0, .int .i64 cy0, .int .i64 sc, .int .i64 wd0, .int .i64 ht]
  | _ => #[.int .i64 cx0, .int .i64 cy0, .int .i64 sc, .int .i64 wd0, .int .i64 ht0]

/-- The two views and the vector in memory. -/
def ST (v z : Nat) (row : Array Value) (bx bY : Int) (row2 : Array Value) (w w' : World) : Prop :=
  w'.heap[v]? = some (.cells row 25 (0, 0)) ∧ w'.heap[v + 1]? = some (.cells #[.int .i64 bx, .int .i64 bY] 23 (0, 0)) ∧ w'.heap[z]? = some (.cells row2 25 (0, 0)) ∧ Below v w w' ∧ z < w'.heap.size ∧ v + 1 < z
theorem ST.below {v z B : Nat} {row row2 : Array Value} {bx bY : Int} {w w' w'' : World} (h : ST v z row bx bY row2 w w') (hb : Below B w' w'') (hB : z < B) : ST v z row bx bY row2 w w'' := by
  obtain ⟨h1, h2, h3, h4, h5, h6⟩ := h
  exact ⟨(hb.block v (by omega)).trans h1, (hb.block (v + 1) (by omega)).trans h2, (hb.block z (by omega)).trans h3, h4.trans (hb.mono (by omega)), Nat.lt_of_lt_of_le h5 hb.size, h6⟩

def PicP (hr : Nat) (cod : Int) (S : Nat → ByteArray) (w : World) (e : Ending) (w' : World) : Prop :=
  ∃ A' c', e = .returned (.tuple #[.slice A' hr c', .int .i64 cod]) ∧ w'.ownsRow w.heap.size 9 1 (.slice A' hr c') hr ((List.range hr).map fun k => .string (S k)) ∧ Below w.heap.size w w'
/-- Both pictures show the same. -/
theorem Pics (cx cy sc wd ht bx bY : Int) (h1 : -90000 ≤ cx ∧ cx ≤ 90000) (h2 : -90000 ≤ cy ∧ cy ≤ 90000) (h3 : 1 ≤ wd ∧ wd ≤ 20) (h4 : 1 ≤ ht ∧ ht ≤ 20) (h5 : -1000 ≤ bx ∧ bx ≤ 1000) (h6 : -1000 ≤ bY ∧ bY ≤ 1000) (mm nn : Nat) (hm : mm ≤ 2) (hn : nn ≤ 6) (N : Nat → Nat) (F1 F2 : Nat → Nat → Int × Int) (f1 f2 : Nat → Int × Int)
    (hF : ∀ i j, (F2 i j).1 = (F1 i j).1 + bx ∧ (F2 i j).2 = (F1 i j).2 + bY) (hf : ∀ j, (f2 j).1 = (f1 j).1 + bx ∧ (f2 j).2 = (f1 j).2 + bY) (hok1 : ∀ i, PtOk (f1 i)) (hok2 : ∀ i, PtOk (f2 i)) :
    ∃ (hr : Nat) (cod : Int) (S : Nat → ByteArray), hr ≤ 60 ∧
      (∀ (W : World) (L A : Option Addr) (cL c : Nat), Polys W W.heap.size L mm N F1 → Sl W W.heap.size 2 A nn (ptRow f1) → Calls Try.prog 13 #[.agg #[.int .i64 cx, .int .i64 cy, .int .i64 sc, .int .i64 wd, .int .i64 ht], .slice L mm cL, .slice A nn c] W (PicP hr cod S W)) ∧
      (∀ (W : World) (L A : Option Addr) (cL c : Nat), Polys W W.heap.size L mm N F2 → Sl W W.heap.size 2 A nn (ptRow f2) → Calls Try.prog 13 #[.agg #[.int .i64 (cx + bx), .int .i64 (cy + bY), .int .i64 sc, .int .i64 wd, .int .i64 ht], .slice L mm cL, .slice A nn c] W (PicP hr cod S W)) := by
  obtain ⟨wn, rfl⟩ : ∃ wn : Nat, wd = (wn : Int) := ⟨wd.toNat, by omega⟩
  obtain ⟨hn', rfl⟩ : ∃ hn' : Nat, ht = (hn' : Int) := ⟨ht.toNat, by omega⟩
  have hsd : sideE wn hn' = 0 := by unfold sideE; rw [if_pos ⟨by omega, by omega, by omega, by omega⟩]
  by_cases hs : 1 ≤ sc ∧ sc ≤ 50000
  · refine ⟨hn', 0, fun k => rowStr wn (picF (fun i k => cellOf cx cy sc wn hn' (F1 i k)) N mm (fun i => cellOf cx cy sc wn hn' (f1 i)) nn (hn' - 1 - k)), by omega, fun W L A cL c hP hS => ?_, fun W L A cL c hP hS => ?_⟩
    · refine (Picture_any cx cy sc wn hn' L mm cL N F1 A nn c f1 W (by omega) (by omega) (by omega) (by omega) hs.1 hs.2 hsd hP (by omega) hS (by omega) (fun i _ => hok1 i)).mono fun e w' h => ?_
      exact h
    · refine (Picture_any (cx + bx) (cy + bY) sc wn hn' L mm cL N F2 A nn c f2 W (by omega) (by omega) (by omega) (by omega) hs.1 hs.2 hsd hP (by omega) hS (by omega) (fun i _ => hok2 i)).mono fun e w' h => ?_
      have e1 : (fun i k => cellOf (cx + bx) (cy + bY) sc wn hn' (F2 i k)) = fun i k => cellOf cx cy sc wn hn' (F1 i k) := by
        funext i k
        unfold cellOf
        rw [(hF i k).1, (hF i k).2, show (F1 i k).1 + bx - (cx + bx) = (F1 i k).1 - cx by omega, show (F1 i k).2 + bY - (cy + bY) = (F1 i k).2 - cy by omega]
      have e2 : (fun i => cellOf (cx + bx) (cy + bY) sc wn hn' (f2 i)) = fun i => cellOf cx cy sc wn hn' (f1 i) := by
        funext i
        unfold cellOf
        rw [(hf i).1, (hf i).2, show (f1 i).1 + bx - (cx + bx) = (f1 i).1 - cx by omega, show (f1 i).2 + bY - (cy + bY) = (f1 i).2 - cy by omega]
      rw [e1, e2] at h
      exact h
  · have hv : ∀ a b : Int, viewE a b sc wn hn' = 4 := fun a b => by
      unfold viewE
      rw [if_neg]
      rintro ⟨_, b, c, _⟩
      exact hs ⟨b, c⟩
    refine ⟨0, 4, fun _ => ByteArray.empty, by omega, fun W L A cL c _ _ => ?_, fun W L A cL c _ _ => ?_⟩
    · exact (Picture_bad cx cy sc wn hn' L A mm cL nn c W (fun o => check_bad cx cy sc wn hn' L A mm cL nn c _ (hv _ _))).mono fun e w' h => ⟨none, 0, h.1, World.ownsRow_nil _ _ _ _, h.2⟩
    · exact (Picture_bad (cx + bx) (cy + bY) sc wn hn' L A mm cL nn c W (fun o => check_bad (cx + bx) (cy + bY) sc wn hn' L A mm cL nn c _ (hv _ _))).mono fun e w' h => ⟨none, 0, h.1, World.ownsRow_nil _ _ _ _, h.2⟩

set_option maxRecDepth 100000 in
set_option maxHeartbeats 8000000 in
theorem SShifted_any (cx cy sc wd ht b1 b2 : Int) (L A : Option Addr) (m cL n c : Nat) (N : Nat → Nat) (F : Nat → Nat → Int × Int) (f : Nat → Int × Int) (w : World)
    (hL : ∃ (P : Nat → Option Addr) (C : Nat → Nat), Sl w w.heap.size 1 L m (fun i => [.slice (P i) (N i) (C i)]) ∧ ∀ i, i < m → (Sl w w.heap.size 2 (P i) (N i) (ptRow (F i)) ∧ N i ≤ C i ∧ C i ≤ maxLen))
    (hm : m ≤ cL ∧ cL ≤ maxLen) (hA : Sl w w.heap.size 2 A n (ptRow f)) (hn : n ≤ c ∧ c ≤ maxLen) :
    Calls Try.prog 4 #[.agg #[.int .i64 cx, .int .i64 cy, .int .i64 sc, .int .i64 wd, .int .i64 ht], .slice L m cL, .slice A n c, .agg #[.int .i64 b1, .int .i64 b2]] w fun e w' => e = .returned (.bool true) ∧ Below w.heap.size w w' := by
  have N1 := cutI_bd (n := cx) (show (-90000 : Int) ≤ 90000 by decide)
  have N2 := cutI_bd (n := cy) (show (-90000 : Int) ≤ 90000 by decide)
  have N3 := cutI_bd (n := wd) (show (1 : Int) ≤ 20 by decide)
  have N4 := cutI_bd (n := ht) (show (1 : Int) ≤ 20 by decide)
  have N5 := cutI_bd (n := b1) (show (-1000 : Int) ≤ 1000 by decide)
  have N6 := cutI_bd (n := b2) (show (-1000 : Int) ≤ 1000 by decide)
  have HN0 := Lib.hid (fun W => near_any cx cy W)
  have HC1 := Lib.hid (fun W => Cut_any b1 (-1000) 1000 W (by omega) (by omega) (by omega))
  have HC2 := Lib.hid (fun W => Cut_any b2 (-1000) 1000 W (by omega) (by omega) (by omega))
  have HC3 := Lib.hid (fun W => Cut_any wd 1 20 W (by omega) (by omega) (by omega))
  have HC4 := Lib.hid (fun W => Cut_any ht 1 20 W (by omega) (by omega) (by omega))
  generalize cutI cx (-90000) 90000 = cx0 at *
  generalize cutI cy (-90000) 90000 = cy0 at *
  generalize cutI wd 1 20 = wd0 at *
  generalize cutI ht 1 20 = ht0 at *
  generalize cutI b1 (-1000) 1000 = bx at *
  generalize cutI b2 (-1000) 1000 = bY at *
  have HNN := Lib.hid (And.intro N1 (And.intro N2 (And.intro N3 (And.intro N4 (And.intro N5 N6)))))
  have HL := Lib.hid hL
  have HM := Lib.hid hm
  have HA := Lib.hid hA
  have HNc := Lib.hid hn
  clear N1 N2 N3 N4 N5 N6 hL hm hA hn
  obtain ⟨v, hv⟩ : ∃ v, w.heap.size = v := ⟨_, rfl⟩
  obtain ⟨W0, hW0, g0, g1, hb0⟩ : ∃ W0, (w.alloc (.cells #[.int .i64 cx, .int .i64 cy, .int .i64 sc, .int .i64 wd, .int .i64 ht] 25)).alloc (.cells #[.int .i64 b1, .int .i64 b2] 23) = W0 ∧ W0.heap[v]? = some (.cells #[.int .i64 cx, .int .i64 cy, .int .i64 sc, .int .i64 wd, .int .i64 ht] 25 (0, 0)) ∧ W0.heap[v + 1]? = some (.cells #[.int .i64 b1, .int .i64 b2] 23 (0, 0)) ∧ Below v w W0 := by
    refine ⟨_, rfl, ?_, ?_, ((Below.refl v w).alloc (by omega) _).alloc (by simp; omega) _⟩
    · exact (Below.heap_alloc _ _ v (by simp <;> omega)).trans (by rw [← hv]; exact heap_alloc_new w _)
    · have := heap_alloc_new (w.alloc (.cells #[.int .i64 cx, .int .i64 cy, .int .i64 sc, .int .i64 wd, .int .i64 ht] 25)) (.cells #[.int .i64 b1, .int .i64 b2] 23)
      simpa [hv] using this
  have u0 := cell_of_row W0 (v + 1) 0 _ 23 (0, 0) g1
  have u1 := cell_of_row W0 (v + 1) 1 _ 23 (0, 0) g1
  have f0 := frozen_of_row W0 (v + 1) 0 _ 23 g1
  have f1 := frozen_of_row W0 (v + 1) 1 _ 23 g1
  have HG := Lib.hid (And.intro g0 (And.intro g1 hb0))
  have HVe := Lib.hid hv
  go_enter Try.func4, Try.ntmps4
  go_wp2
  generalize hWX : World.alloc _ _ = WX
  have hWX2 : WX = W0 := by rw [← hWX, ← hW0]
  subst hWX2
  clear g0 g1 hb0 hW0 hWX hv
  refine wp_region_still_tail 7 (by kernel_rfl) (by kernel_rfl) ?_
  simp only [List.take_succ_cons, List.take_zero, List.drop_succ_cons, List.drop_zero]
  still_step
  still_step
  still_call ((HC1.out _).mono fun _ _ h => ⟨h.1, h.2.symm⟩)
  still_step
  still_step
  still_call ((HC2.out _).mono fun _ _ h => ⟨h.1, h.2.symm⟩)
  still_step
  refine wpStill_nil ?_
  change wpList _ _ _ _ _ WX.drew
  go_wp2
  generalize hW1 : World.setCell _ _ _ = W1
  have HV1 : Hid (VW v (rw4 cx cy cx0 cy0 sc wd0 ht0 wd ht 0) bx bY w W1) := Lib.hid (by
    rw [← hW1]
    have h0 : VW v (rw4 cx cy cx0 cy0 sc wd0 ht0 wd ht 0) b1 b2 w WX := ⟨HG.out.1, HG.out.2.1, HG.out.2.2, (Array.getElem?_eq_some_iff.1 HG.out.2.1).1⟩
    exact setVW2 (setVW1 h0 bx) bY)
  clear hW1 HG u0 u1 f0 f1
  refine Dr.region (fun k w' => VW v (rw4 cx cy cx0 cy0 sc wd0 ht0 wd ht k) bx bY w w') [11, 13, 15] [(0, 0, false), (0, 0, false), (0, 0, false), (0, 0, false), (0, 0, false), (0, 0, false), (0, 0, false), (0, 0, false), (0, 0, false), (0, 0, false), (0, 0, false), (0, 0, true), (1, 1, false), (1, 1, true), (2, 2, false), (2, 2, true)] 3 (by kernel_rfl) (by kernel_rfl) (by kernel_rfl) (by kernel_rfl) HV1.out.drew.drew ?_
  apply Dr.cons
  · intro k hk1 hk2 w' hw K hK
    obtain rfl : k = 0 := by omega
    go_simp
    exact hK _ hw
  · exact ⟨_, rfl⟩
  apply Dr.cons
  · intro k hk1 hk2 w' hw K hK
    obtain rfl : k = 0 := by omega
    go_simp
    exact hK _ hw
  · exact ⟨_, rfl⟩
  apply Dr.cons
  · intro k hk1 hk2 w' hw K hK
    obtain rfl : k = 0 := by omega
    have t0 := cell_of_row w' v 0 _ 25 (0, 0) hw.1
    have t1 := cell_of_row w' v 1 _ 25 (0, 0) hw.1
    simp only [rw4] at t0 t1
    go_simp
    exact hK _ hw
  · exact ⟨_, rfl⟩
  apply Dr.cons
  · intro k hk1 hk2 w' hw K hK
    obtain rfl : k = 0 := by omega
    go_simp
    refine (HN0.out w').mono ?_
    rintro e w5 ⟨rfl, hb5⟩
    exact hK _ (hw.below (by first | exact hb5 | (subst hb5; exact Below.refl _ _)))
  · exact ⟨_, rfl⟩
  apply Dr.cons
  · intro k hk1 hk2 w' hw K hK
    obtain rfl : k = 0 := by omega
    go_simp
    exact hK _ hw
  · exact ⟨_, rfl⟩
  apply Dr.cons
  · intro k hk1 hk2 w' hw K hK
    obtain rfl : k = 0 := by omega
    have t3 := cell_of_row w' v 3 _ 25 (0, 0) hw.1
    simp only [rw4] at t3
    go_simp
    exact hK _ hw
  · exact ⟨_, rfl⟩
  apply Dr.cons
  · intro k hk1 hk2 w' hw K hK
    obtain rfl : k = 0 := by omega
    go_simp
    refine (HC3.out w').mono ?_
    rintro e w5 ⟨rfl, hb5⟩
    exact hK _ (hw.below (by first | exact hb5 | (subst hb5; exact Below.refl _ _)))
  · exact ⟨_, rfl⟩
  apply Dr.cons
  · intro k hk1 hk2 w' hw K hK
    obtain rfl : k = 0 := by omega
    go_simp
    exact hK _ hw
  · exact ⟨_, rfl⟩
  apply Dr.cons
  · intro k hk1 hk2 w' hw K hK
    obtain rfl : k = 0 := by omega
    have t4 := cell_of_row w' v 4 _ 25 (0, 0) hw.1
    simp only [rw4] at t4
    go_simp
    exact hK _ hw
  · exact ⟨_, rfl⟩
  apply Dr.cons
  · intro k hk1 hk2 w' hw K hK
    obtain rfl : k = 0 := by omega
    go_simp
    refine (HC4.out w').mono ?_
    rintro e w5 ⟨rfl, hb5⟩
    exact hK _ (hw.below (by first | exact hb5 | (subst hb5; exact Below.refl _ _)))
  · exact ⟨_, rfl⟩
  apply Dr.cons
  · intro k hk1 hk2 w' hw K hK
    obtain rfl : k = 0 := by omega
    go_simp
    exact hK _ hw
  · exact ⟨_, rfl⟩
  apply Dr.cons
  · intro k hk1 hk2 w' hw K hK
    obtain rfl : k = 0 := by omega
    have t0 := cell_of_row w' v 0 _ 25 (0, 0) hw.1
    have f0 := frozen_of_row w' v 0 _ 25 hw.1
    have t1 := cell_of_row w' v 1 _ 25 (0, 0) hw.1
    have f1 := frozen_of_row w' v 1 _ 25 hw.1
    simp only [rw4] at t0 t1
    go_simp
    exact hK _ ((hw.set 0 _).set 1 _)
  · exact ⟨.int .i64 0, rfl⟩
  apply Dr.cons
  · intro k hk1 hk2 w' hw K hK
    obtain rfl : k = 1 := by omega
    go_simp
    exact hK _ hw
  · exact ⟨_, rfl⟩
  apply Dr.cons
  · intro k hk1 hk2 w' hw K hK
    obtain rfl : k = 1 := by omega
    have t3 := cell_of_row w' v 3 _ 25 (0, 0) hw.1
    have f3 := frozen_of_row w' v 3 _ 25 hw.1
    simp only [rw4] at t3
    go_simp
    exact hK _ (hw.set 3 _)
  · exact ⟨.int .i64 0, rfl⟩
  apply Dr.cons
  · intro k hk1 hk2 w' hw K hK
    obtain rfl : k = 2 := by omega
    go_simp
    exact hK _ hw
  · exact ⟨_, rfl⟩
  apply Dr.cons
  · intro k hk1 hk2 w' hw K hK
    obtain rfl : k = 2 := by omega
    have t4 := cell_of_row w' v 4 _ 25 (0, 0) hw.1
    have f4 := frozen_of_row w' v 4 _ 25 hw.1
    simp only [rw4] at t4
    go_simp
    exact hK _ (hw.set 4 _)
  · exact ⟨.int .i64 0, rfl⟩
  intro w4 hw4
  simp only [rw4] at hw4
  have HV4 := Lib.hid hw4
  have k0 := cell_of_row w4 v 0 _ 25 (0, 0) hw4.1
  have k1 := cell_of_row w4 v 1 _ 25 (0, 0) hw4.1
  have k2 := cell_of_row w4 v 2 _ 25 (0, 0) hw4.1
  have k3 := cell_of_row w4 v 3 _ 25 (0, 0) hw4.1
  have k4 := cell_of_row w4 v 4 _ 25 (0, 0) hw4.1
  have hvl : v < w4.heap.size := by have := hw4.2.2.2; omega
  have hvn : v ≠ w4.heap.size := by omega
  clear hw4 HN0 HC1 HC2 HC3 HC4 HV1
  obtain ⟨mm, hmm, hmm2, hmm3⟩ : ∃ mm : Nat, min (m : Int) 2 = (mm : Int) ∧ mm ≤ m ∧ mm ≤ 2 := ⟨min m 2, by omega, by omega, by omega⟩
  have HMM := Lib.hid (And.intro hmm2 hmm3)
  have mm0 : (0 : Int) ≤ (mm : Int) := by omega
  have mmc : (mm : Int) ≤ (cL : Int) := by have := HM.out; omega
  have HAD := Lib.hid (fun (W : World) (hB : v + 1 < W.heap.size) (hg : W.heap[v + 1]? = some (.cells #[.int .i64 bx, .int .i64 bY] 23 (0, 0))) => add_any cx0 cy0 bx bY (v + 1) W hB hg (by have := HNN.out; omega) (by have := HNN.out; omega) HNN.out.2.2.2.2.1 HNN.out.2.2.2.2.2)
  clear hmm2 hmm3
  go_wp2_with (go_at_call 12; go_loud (refine (HAD.out _ (by simp; exact hvl) ((Below.heap_alloc _ _ _ HV4.out.2.2.2).trans HV4.out.2.1)).mono ?_; rintro e w5 ⟨rfl, hb5⟩; have H5 := Lib.hid hb5; obtain ⟨hc5, hf5⟩ := bcell hb5; have hz5 := hb5.size; simp at hz5; clear hb5))
  obtain ⟨z, hz⟩ : ∃ z, w4.heap.size = z := ⟨_, rfl⟩
  have hvz : v + 1 < z := by rw [← hz]; exact HV4.out.2.2.2
  have hzl : z < w5.heap.size := by omega
  generalize hW7 : World.setCell _ _ _ = W7
  have HS7 : Hid (ST v z (rw4 cx cy cx0 cy0 sc wd0 ht0 wd ht 3) bx bY #[.int .i64 (cx0 + bx), .int .i64 (cy0 + bY), .int .i64 sc, .int .i64 wd0, .int .i64 ht0] w W7) := Lib.hid (by
    rw [← hW7, ← hz]
    have e1 : w5.heap[v]? = some (.cells #[.int .i64 cx0, .int .i64 cy0, .int .i64 sc, .int .i64 wd0, .int .i64 ht0] 25 (0, 0)) := (H5.out.block v (by simp; omega)).trans ((Below.heap_alloc _ _ _ hvl).trans HV4.out.1)
    have e2 : w5.heap[v + 1]? = some (.cells #[.int .i64 bx, .int .i64 bY] 23 (0, 0)) := (H5.out.block (v + 1) (by simp; omega)).trans ((Below.heap_alloc _ _ _ (by omega)).trans HV4.out.2.1)
    have e3 : w5.heap[w4.heap.size]? = some (.cells #[.int .i64 cx0, .int .i64 cy0, .int .i64 sc, .int .i64 wd0, .int .i64 ht0] 25 (0, 0)) := (H5.out.block w4.heap.size (by simp)).trans (heap_alloc_new w4 _)
    have e4 : Below v w w5 := (HV4.out.2.2.1.alloc (by omega) _).trans (H5.out.mono (by simp; omega))
    refine ⟨?_, ?_, ?_, ?_, ?_, by omega⟩
    · exact (heap_setCell_other _ _ _ _ (by show v ≠ w4.heap.size; omega)).trans ((heap_setCell_other _ _ _ _ (by show v ≠ w4.heap.size; omega)).trans e1)
    · exact (heap_setCell_other _ _ _ _ (by show v + 1 ≠ w4.heap.size; omega)).trans ((heap_setCell_other _ _ _ _ (by show v + 1 ≠ w4.heap.size; omega)).trans e2)
    · exact heap_setCell_same _ _ 1 _ 25 _ (heap_setCell_same _ _ 0 _ 25 _ e3)
    · exact (e4.setCell (p := ⟨w4.heap.size, 0, none⟩) (by show v ≤ w4.heap.size; omega) _).setCell (p := ⟨w4.heap.size, 1, none⟩) (by show v ≤ w4.heap.size; omega) _
    · simp [World.setCell]; omega)
  simp only [rw4] at HS7
  rw [hz]
  clear hW7 HV4 H5 hc5 hf5 hz5 k0 k1 k2 k3 k4 hvl hvn hz hzl
  obtain ⟨P, C, hL1, hL2⟩ := HL.out
  have HL1 := Lib.hid hL1
  have HL2 := Lib.hid hL2
  obtain ⟨F1, hF1⟩ : ∃ F1 : Nat → Nat → Int × Int, ∀ i j, (F1 i j).1 = cutI (F i j).1 (-90000) 90000 ∧ (F1 i j).2 = cutI (F i j).2 (-90000) 90000 := ⟨fun i j => (cutI (F i j).1 (-90000) 90000, cutI (F i j).2 (-90000) 90000), fun _ _ => ⟨rfl, rfl⟩⟩
  obtain ⟨F2, hF2⟩ : ∃ F2 : Nat → Nat → Int × Int, ∀ i j, (F2 i j).1 = (F1 i j).1 + bx ∧ (F2 i j).2 = (F1 i j).2 + bY := ⟨fun i j => ((F1 i j).1 + bx, (F1 i j).2 + bY), fun _ _ => ⟨rfl, rfl⟩⟩
  obtain ⟨f1, hf1⟩ : ∃ f1 : Nat → Int × Int, ∀ j, (f1 j).1 = cutI (f j).1 (-90000) 90000 ∧ (f1 j).2 = cutI (f j).2 (-90000) 90000 := ⟨fun j => (cutI (f j).1 (-90000) 90000, cutI (f j).2 (-90000) 90000), fun _ => ⟨rfl, rfl⟩⟩
  obtain ⟨f2, hf2⟩ : ∃ f2 : Nat → Int × Int, ∀ j, (f2 j).1 = (f1 j).1 + bx ∧ (f2 j).2 = (f1 j).2 + bY := ⟨fun j => ((f1 j).1 + bx, (f1 j).2 + bY), fun _ => ⟨rfl, rfl⟩⟩
  have HF1 := Lib.hid hF1
  have HF2 := Lib.hid hF2
  have Hf1 := Lib.hid hf1
  have Hf2 := Lib.hid hf2
  obtain ⟨i36, J0, J1, J2, J3⟩ := info_parts pts_info
  obtain ⟨i23, E0, E1, E2, E3⟩ := info_parts pt_info
  clear hL1 hL2 hF1 hF2 hf1 hf2 HAD HL
  go_loopw [12, 13, 61] (fun va vb xk wp => ∃ (k : Nat) (P1 : Nat → Option Addr) (C1 : Nat → Nat) (P2 : Nat → Option Addr) (C2 : Nat → Nat), k ≤ mm ∧ xk = .int .i64 (k : Int) ∧ Hid (Bt wp (z + 1) va vb k (fun i => min (N i) 6) F1 F2 P1 C1 P2 C2) ∧ Hid (ST v z #[.int .i64 cx0, .int .i64 cy0, .int .i64 sc, .int .i64 wd0, .int .i64 ht0] bx bY #[.int .i64 (cx0 + bx), .int .i64 (cy0 + bY), .int .i64 sc, .int .i64 wd0, .int .i64 ht0] w wp)) (fun _ _ xk _ => mm - (intOf xk).toNat)
  case atStart => exact ⟨0, fun _ => none, fun _ => 0, fun _ => none, fun _ => 0, by omega, rfl, Lib.hid (Bt.nil _ _ _ _ _ _ _ _ _), HS7⟩
  case round =>
    obtain ⟨k, P1, C1, P2, C2, hk, rfl, HBt, HSo⟩ := hrel
    obtain ⟨VA, cA, rfl⟩ := own_shape HBt.out.a
    obtain ⟨VB, cB, rfl⟩ := own_shape HBt.out.b
    by_cases hkm : k < mm
    · have hmm1 := HMM.out
      obtain ⟨bl, ol, rfl, hbl, hrl⟩ := HL1.out.one (by omega)
      have k0 : wr.cell? ⟨bl, ol + k, none⟩ = some (.slice (P k) (N k) (C k)) := (HSo.out.2.2.2.1.cell (p := ⟨bl, ol + k, none⟩) (by show bl < v; rw [← HVe.out]; exact hbl)).trans (hrl k (by omega))
      have hPi := (HL2.out k (by omega)).1
      have hCi := (HL2.out k (by omega)).2
      obtain ⟨q, hq, hq1, hq2, hq3⟩ : ∃ q : Nat, min ((N k : Nat) : Int) 6 = (q : Int) ∧ q ≤ N k ∧ q ≤ 6 ∧ min (N k) 6 = q := ⟨min (N k) 6, by omega, by omega, by omega, rfl⟩
      have HQ3 := Lib.hid hq3
      obtain ⟨pn, hpn⟩ : ∃ pn, N k = pn := ⟨_, rfl⟩
      obtain ⟨pa, hpa⟩ : ∃ pa, P k = pa := ⟨_, rfl⟩
      obtain ⟨pc, hpc⟩ : ∃ pc, C k = pc := ⟨_, rfl⟩
      rw [hpn] at k0 hPi hCi hq hq1
      rw [hpa] at k0 hPi
      rw [hpc] at k0 hCi
      have HPi := Lib.hid hPi
      have pn0 : (0 : Int) ≤ (pn : Int) := by omega
      have q0 : (0 : Int) ≤ (q : Int) := by omega
      have qc : (q : Int) ≤ (pc : Int) := by omega
      have hk0 : (0 : Int) ≤ (k : Int) := by omega
      have hkM : (k : Int) < (mm : Int) := by omega
      have hwk : IntKind.i64.wrap ((k : Int) + 1) = (k : Int) + 1 := IntWalk.i64_in _ (by omega)
      have hvw := HSo.out.2.2.2.2
      have hblw : bl < wr.heap.size := by have := HVe.out; omega
      clear hpn hpa hpc hPi hrl hq3 hmm1
      obtain ⟨wo, rfl⟩ : ∃ wo : World, wo = wr := ⟨_, rfl⟩
      have TWs : Hid (TW wo.heap.size wo wo (.slice none 0 0) (.slice none 0 0) 0 (F1 k) (F2 k)) := Lib.hid (TW.nil _ _ _ _)
      go_wp2_with fail
      go_loopw [16, 17, 71] (fun vx vy xi wp => ∃ (j : Nat) (X Y : Option Addr) (cX cY : Nat), j ≤ q ∧ xi = .int .i64 (j : Int) ∧ vx = .slice X j cX ∧ vy = .slice Y j cY ∧ Hid (TW wo.heap.size wo wp (.slice X j cX) (.slice Y j cY) j (F1 k) (F2 k))) (fun _ _ xi _ => q - (intOf xi).toNat)
      case atStart => exact ⟨0, none, none, 0, 0, by omega, rfl, rfl, rfl, Lib.hid (TWs.out)⟩
      case round =>
        obtain ⟨j, X, Y, cX, cY, hj, rfl, rfl, rfl, HT⟩ := hrel
        by_cases hjq : j < q
        · obtain ⟨b, off, rfl, hbb, hr⟩ := pt_cells HPi.out (by omega)
          obtain ⟨r0, r1⟩ := hr j (by omega)
          have HBr : Hid (Below v w wr) := Lib.hid (HSo.out.2.2.2.1.trans (HT.out.bel.mono (by have := HSo.out.2.2.2.2; omega)))
          have o0 := (HBr.out.cell (p := ⟨b, off + j * 2, none⟩) (by show b < v; rw [← HVe.out]; exact hbb)).trans r0
          have o1 := (HBr.out.cell (p := ⟨b, off + j * 2 + 1, none⟩) (by show b < v; rw [← HVe.out]; exact hbb)).trans r1
          have hbw : b < wr.heap.size := by have := HBr.out.size; have := HVe.out; omega
          obtain ⟨p1, p2⟩ := HF1.out k j
          obtain ⟨p3, p4⟩ := HF2.out k j
          have N1 := cutI_bd (n := (F k j).1) (show (-90000 : Int) ≤ 90000 by decide)
          have N2 := cutI_bd (n := (F k j).2) (show (-90000 : Int) ≤ 90000 by decide)
          have HN := Lib.hid (fun (W : World) => near_any (F k j).1 (F k j).2 W)
          rw [← p1] at N1
          rw [← p2] at N2
          rw [← p1, ← p2] at HN
          have HX1 := Lib.hid (pt_flat ((F1 k)) j _ _ rfl rfl)
          have HX2 := Lib.hid (pt_flat ((F2 k)) j _ _ p3 p4)
          generalize ((F1 k) j).1 = x0 at *
          generalize ((F1 k) j).2 = y0 at *
          generalize (F k j).1 = x at *
          generalize (F k j).2 = y at *
          have hj0 : (0 : Int) ≤ (j : Int) := by omega
          have hjq' : (j : Int) < (q : Int) := by omega
          have hwj : IntKind.i64.wrap ((j : Int) + 1) = (j : Int) + 1 := IntWalk.i64_in _ (by omega)
          have hzo := HT.out.bel.size
          have hbwn : b ≠ wr.heap.size := by omega
          clear hr r0 r1 p1 p2 p3 p4
          go_wp2_with fail
          obtain ⟨w3, hw3⟩ : ∃ w3, wr.alloc (.cells #[.int .i64 x, .int .i64 y] 23) = w3 := ⟨_, rfl⟩
          have hb3 : Below wr.heap.size wr w3 := by rw [← hw3]; exact (Below.refl _ wr).alloc (Nat.le_refl _) _
          have hn3 : w3.heap[wr.heap.size]? = some (.cells #[.int .i64 x, .int .i64 y] 23 (0, 0)) := by rw [← hw3]; exact heap_alloc_new wr _
          rw [hw3]
          have hz3 : wr.heap.size < w3.heap.size := (Array.getElem?_eq_some_iff.1 hn3).1
          have HB3 : Hid (Below wo.heap.size wo w3) := Lib.hid (HT.out.bel.trans (hb3.mono hzo))
          have OX3 := Lib.hid (own_below HT.out.x hb3 (Nat.le_refl _))
          have OY3 := Lib.hid (own_below HT.out.y hb3 (Nat.le_refl _))
          have AP3 := Lib.hid HT.out.ap
          have c30 := cell_of_row w3 _ 0 _ 23 (0, 0) hn3
          have c31 := cell_of_row w3 _ 1 _ 23 (0, 0) hn3
          have NX : Hid ((Value.slice X j cX).ownBlock ≠ some wr.heap.size) := Lib.hid (fun h => by have := (HT.out.x.lt _ h).2; omega)
          have NY : Hid ((Value.slice Y j cY).ownBlock ≠ some wr.heap.size) := Lib.hid (fun h => by have := (HT.out.y.lt _ h).2; omega)
          obtain ⟨gb, hgb⟩ : ∃ gb, wr.heap.size = gb := ⟨_, rfl⟩
          rw [hgb] at hz3 c30 c31 NX NY ⊢
          have hB3 : wo.heap.size ≤ w3.heap.size := by omega
          have HB3z := Lib.hid hB3
          have hs0 : Below wo.heap.size w3 w3.drew ∧ gb < w3.drew.heap.size ∧ w3.drew.cell? ⟨gb, 0, none⟩ = some (.int .i64 x) ∧ w3.drew.cell? ⟨gb, 1, none⟩ = some (.int .i64 y) := ⟨(Below.refl _ _).drew, hz3, c30, c31⟩
          have HA3 : Hid (∀ (W : World), Below wo.heap.size w3 W → Calls Try.prog 12 #[.agg #[.int .i64 x0, .int .i64 y0], .pointer (some ⟨v + 1, 0, none⟩)] W fun e w' => e = .returned (.agg #[.int .i64 (x0 + bx), .int .i64 (y0 + bY)]) ∧ Below W.heap.size W w') := Lib.hid (fun W hW => add_any x0 y0 bx bY (v + 1) W (by have := hW.size; have := HSo.out.2.2.2.2; omega) ((hW.block (v + 1) (by have := HSo.out.2.2.2.2; omega)).trans ((HB3.out.block (v + 1) (by have := HSo.out.2.2.2.2; omega)).trans HSo.out.2.1)) (by omega) (by omega) HNN.out.2.2.2.2.1 HNN.out.2.2.2.2.2)
          have tok1 : True := trivial
          clear hw3 hb3 hn3 hgb c30 c31 o0 o1 N1 N2
          go_region_held3 (fun W => Below wo.heap.size w3 W ∧ gb < W.heap.size ∧ W.cell? ⟨gb, 0, none⟩ = some (.int .i64 x) ∧ W.cell? ⟨gb, 1, none⟩ = some (.int .i64 y)) (first | assumption | exact ss_alloc _ HB3z.out (by assumption) | exact ss_below (by assumption) HB3z.out (by assumption)) (first
            | (go_at_call 11; have _t := tok1; go_loud (refine (HN.out _).mono ?_; rintro e w5 ⟨rfl, hb5⟩; have B5 := And.intro trivial hb5; have OX5 := Lib.hid (own_below (w := w3.drew) (show w3.drew.ownsRow _ _ _ _ _ _ from OX3.out) hb5 (Nat.le_refl _)); have OY5 := Lib.hid (own_below (w := w3.drew) (show w3.drew.ownsRow _ _ _ _ _ _ from OY3.out) hb5 (Nat.le_refl _)); have hz5 : w3.heap.size ≤ w5.heap.size := hb5.size; clear hb5 tok1 _t))
            | (refine step_append_row _ #[.int .i64 x0, .int .i64 y0] w5.heap.size rfl (.tmp 75) (.tmp 79) 36 rfl wo.heap.size 23 i23 (.agg #[.int .i64 0, .int .i64 0]) 2 16 Try.underlying36 E0 E1 E2 E3 rfl (by decide) (.slice X j cX) j _ rfl (OX5.out.alloc _) rfl (by simp [Value.oneCell']) (heap_alloc_new w5 _) rfl (by omega) (by decide) (by simp; omega) ?_; intro g6 cap6 w6 hown6 hgr6 hat6 hlt6; have OX6 := Lib.hid (HX1.out ▸ hown6); have OY6 := Lib.hid (own_apart (OY5.out.alloc _) hgr6 rfl AP3.out); have AP6 := Lib.hid (apart_to AP3.out (OY5.out.alloc _) (hat6.imp id (fun h => Nat.le_of_eq h.symm)) (rfl : Value.slice (some ⟨g6, 0, none⟩) (j + 1) cap6 = _)); have S6 := ss_app (by assumption) HB3z.out (OX5.out.alloc _) hgr6 NX.out; have hz6 := hgr6.size; simp at hz6; clear hown6 hgr6 hat6)
            | (go_at_call 11; go_loud (refine (HN.out _).mono ?_; rintro e w7 ⟨rfl, hb7⟩; have B7 := And.intro trivial hb7; have OX7 := Lib.hid (own_below OX6.out hb7 (Nat.le_refl _)); have OY7 := Lib.hid (own_below OY6.out hb7 (Nat.le_refl _)); have hz7 : w6.heap.size ≤ w7.heap.size := hb7.size; clear hb7))
            | (go_at_call 12; go_loud (refine (HA3.out _ (And.left (by assumption))).mono ?_; rintro e w8 ⟨rfl, hb8⟩; have B8 := And.intro trivial hb8; have OX8 := Lib.hid (own_below OX7.out hb8 (Nat.le_refl _)); have OY8 := Lib.hid (own_below OY7.out hb8 (Nat.le_refl _)); have hz8 : w7.heap.size ≤ w8.heap.size := hb8.size; clear hb8))
            | (refine step_append_row _ #[.int .i64 (x0 + bx), .int .i64 (y0 + bY)] w8.heap.size rfl (.tmp 81) (.tmp 87) 36 rfl wo.heap.size 23 i23 (.agg #[.int .i64 0, .int .i64 0]) 2 16 Try.underlying36 E0 E1 E2 E3 rfl (by decide) (.slice Y j cY) j _ rfl (OY8.out.alloc _) rfl (by simp [Value.oneCell']) (heap_alloc_new w8 _) rfl (by omega) (by decide) (by simp; omega) ?_; intro g9 cap9 w9 hown9 hgr9 hat9 hlt9; have S9 := ss_app (by assumption) HB3z.out (OY8.out.alloc _) hgr9 NY.out; have T9 : Hid (TW wo.heap.size wo w9 (.slice (some ⟨g6, 0, none⟩) (j + 1) cap6) (.slice (some ⟨g9, 0, none⟩) (j + 1) cap9) (j + 1) (F1 k) (F2 k)) := Lib.hid ⟨own_apart (OX8.out.alloc _) hgr9 rfl AP6.out.symm, HX2.out ▸ hown9, (apart_to AP6.out.symm (OX8.out.alloc _) (hat9.imp id (fun h => Nat.le_of_eq h.symm)) rfl).symm, HB3.out.trans S9.1⟩; clear hown9 hgr9 hat9))
          go_wp2_with fail
          go_roundw
          case rel => exact ⟨j + 1, _, _, _, _, by omega, by go_num, rfl, rfl, T9⟩
          case measure => simp [intOf]; omega
        · obtain rfl : q = j := by omega
          have hzw := HT.out.bel.size
          go_wp2_with (first
            | (at_builtin; go_loud (refine wpList_append_oneN wr wr.heap.size rfl #[.slice X q cX] rfl (.tmp 90) (.tmp 92) 33 rfl (z + 1) 36 i36 (.slice none 0 0) 1 24 Try.underlying33 J0 J1 J2 J3 rfl (by decide) (.slice VA k cA) k _ rfl (own_below HBt.out.a HT.out.bel (Nat.le_refl _)) rfl rfl (by simp [Value.oneCell']) (by omega) (by decide) (by omega) ?_); intro g3 cap3 w6 hv6 hg6 hat6 hlt6; have hz6 := hg6.size; simp at hz6)
            | (at_builtin; go_loud (refine wpList_append_oneN w6 w6.heap.size rfl #[.slice Y q cY] rfl (.tmp 94) (.tmp 96) 33 rfl (z + 1) 36 i36 (.slice none 0 0) 1 24 Try.underlying33 J0 J1 J2 J3 rfl (by decide) (.slice VB k cB) k _ rfl (own_apart ((own_below HBt.out.b HT.out.bel (Nat.le_refl _)).alloc _) hg6 rfl HBt.out.ap) rfl rfl (by simp [Value.oneCell']) (by omega) (by decide) (by omega) ?_); intro g4 cap4 w7 hv7 hg7 hat7 hlt7))
          go_roundw
          case rel =>
            obtain ⟨P3, C3, P4, C4, hbt⟩ := HBt.out.push (by omega) HT.out HQ3.out hv6 hg6 hat6 hv7 hg7 hat7
            have hoB := own_apart ((own_below HBt.out.b HT.out.bel (Nat.le_refl _)).alloc _) hg6 rfl HBt.out.ap
            exact ⟨k + 1, P3, C3, P4, C4, by omega, by go_num, hbt, HSo.out.below (B := z + 1) (below_app (below_app (HT.out.bel.mono (by omega)) (by omega) (own_below HBt.out.a HT.out.bel (Nat.le_refl _)) (Nat.le_refl _) hg6) (by omega) hoB (Nat.le_refl _) hg7) (by omega)⟩
          case measure => simp [intOf]; omega
    · obtain rfl : mm = k := by omega
      have hvw := HSo.out.2.2.2.2
      obtain ⟨nn, hnn, hnn1, hnn2⟩ : ∃ nn : Nat, min (n : Int) 6 = (nn : Int) ∧ nn ≤ n ∧ nn ≤ 6 := ⟨min n 6, by omega, by omega, by omega⟩
      have nn0 : (0 : Int) ≤ (nn : Int) := by omega
      have nnc : (nn : Int) ≤ (c : Int) := by have := HNc.out; omega
      obtain ⟨wq, rfl⟩ : ∃ wq : World, wq = wr := ⟨_, rfl⟩
      have TWs : Hid (TW wq.heap.size wq wq (.slice none 0 0) (.slice none 0 0) 0 f1 f2) := Lib.hid (TW.nil _ _ _ _)
      have HMM2 := Lib.hid HMM.out
      clear HMM hmm mmc
      go_wp2_with fail
      go_loopw [20, 21, 105] (fun vx vy xi wp => ∃ (j : Nat) (X Y : Option Addr) (cX cY : Nat), j ≤ nn ∧ xi = .int .i64 (j : Int) ∧ vx = .slice X j cX ∧ vy = .slice Y j cY ∧ Hid (TW wq.heap.size wq wp (.slice X j cX) (.slice Y j cY) j f1 f2)) (fun _ _ xi _ => nn - (intOf xi).toNat)
      case atStart => exact ⟨0, none, none, 0, 0, by omega, rfl, rfl, rfl, Lib.hid (TWs.out)⟩
      case round =>
        obtain ⟨j, X, Y, cX, cY, hj, rfl, rfl, rfl, HT⟩ := hrel
        by_cases hjq : j < nn
        · obtain ⟨b, off, rfl, hbb, hr⟩ := pt_cells HA.out (by omega)
          obtain ⟨r0, r1⟩ := hr j (by omega)
          have HBr : Hid (Below v w wr) := Lib.hid (HSo.out.2.2.2.1.trans (HT.out.bel.mono (by have := HSo.out.2.2.2.2; omega)))
          have o0 := (HBr.out.cell (p := ⟨b, off + j * 2, none⟩) (by show b < v; rw [← HVe.out]; exact hbb)).trans r0
          have o1 := (HBr.out.cell (p := ⟨b, off + j * 2 + 1, none⟩) (by show b < v; rw [← HVe.out]; exact hbb)).trans r1
          have hbw : b < wr.heap.size := by have := HBr.out.size; have := HVe.out; omega
          obtain ⟨p1, p2⟩ := Hf1.out j
          obtain ⟨p3, p4⟩ := Hf2.out j
          have N1 := cutI_bd (n := (f j).1) (show (-90000 : Int) ≤ 90000 by decide)
          have N2 := cutI_bd (n := (f j).2) (show (-90000 : Int) ≤ 90000 by decide)
          have HN := Lib.hid (fun (W : World) => near_any (f j).1 (f j).2 W)
          rw [← p1] at N1
          rw [← p2] at N2
          rw [← p1, ← p2] at HN
          have HX1 := Lib.hid (pt_flat (f1) j _ _ rfl rfl)
          have HX2 := Lib.hid (pt_flat (f2) j _ _ p3 p4)
          generalize (f1 j).1 = x0 at *
          generalize (f1 j).2 = y0 at *
          generalize (f j).1 = x at *
          generalize (f j).2 = y at *
          have hj0 : (0 : Int) ≤ (j : Int) := by omega
          have hjq' : (j : Int) < (nn : Int) := by omega
          have hwj : IntKind.i64.wrap ((j : Int) + 1) = (j : Int) + 1 := IntWalk.i64_in _ (by omega)
          have hzo := HT.out.bel.size
          have hbwn : b ≠ wr.heap.size := by omega
          clear hr r0 r1 p1 p2 p3 p4
          go_wp2_with fail
          obtain ⟨w3, hw3⟩ : ∃ w3, wr.alloc (.cells #[.int .i64 x, .int .i64 y] 23) = w3 := ⟨_, rfl⟩
          have hb3 : Below wr.heap.size wr w3 := by rw [← hw3]; exact (Below.refl _ wr).alloc (Nat.le_refl _) _
          have hn3 : w3.heap[wr.heap.size]? = some (.cells #[.int .i64 x, .int .i64 y] 23 (0, 0)) := by rw [← hw3]; exact heap_alloc_new wr _
          rw [hw3]
          have hz3 : wr.heap.size < w3.heap.size := (Array.getElem?_eq_some_iff.1 hn3).1
          have HB3 : Hid (Below wq.heap.size wq w3) := Lib.hid (HT.out.bel.trans (hb3.mono hzo))
          have OX3 := Lib.hid (own_below HT.out.x hb3 (Nat.le_refl _))
          have OY3 := Lib.hid (own_below HT.out.y hb3 (Nat.le_refl _))
          have AP3 := Lib.hid HT.out.ap
          have c30 := cell_of_row w3 _ 0 _ 23 (0, 0) hn3
          have c31 := cell_of_row w3 _ 1 _ 23 (0, 0) hn3
          have NX : Hid ((Value.slice X j cX).ownBlock ≠ some wr.heap.size) := Lib.hid (fun h => by have := (HT.out.x.lt _ h).2; omega)
          have NY : Hid ((Value.slice Y j cY).ownBlock ≠ some wr.heap.size) := Lib.hid (fun h => by have := (HT.out.y.lt _ h).2; omega)
          obtain ⟨gb, hgb⟩ : ∃ gb, wr.heap.size = gb := ⟨_, rfl⟩
          rw [hgb] at hz3 c30 c31 NX NY ⊢
          have hB3 : wq.heap.size ≤ w3.heap.size := by omega
          have HB3z := Lib.hid hB3
          have hs0 : Below wq.heap.size w3 w3.drew ∧ gb < w3.drew.heap.size ∧ w3.drew.cell? ⟨gb, 0, none⟩ = some (.int .i64 x) ∧ w3.drew.cell? ⟨gb, 1, none⟩ = some (.int .i64 y) := ⟨(Below.refl _ _).drew, hz3, c30, c31⟩
          have HA3 : Hid (∀ (W : World), Below wq.heap.size w3 W → Calls Try.prog 12 #[.agg #[.int .i64 x0, .int .i64 y0], .pointer (some ⟨v + 1, 0, none⟩)] W fun e w' => e = .returned (.agg #[.int .i64 (x0 + bx), .int .i64 (y0 + bY)]) ∧ Below W.heap.size W w') := Lib.hid (fun W hW => add_any x0 y0 bx bY (v + 1) W (by have := hW.size; have := HSo.out.2.2.2.2; omega) ((hW.block (v + 1) (by have := HSo.out.2.2.2.2; omega)).trans ((HB3.out.block (v + 1) (by have := HSo.out.2.2.2.2; omega)).trans HSo.out.2.1)) (by omega) (by omega) HNN.out.2.2.2.2.1 HNN.out.2.2.2.2.2)
          have tok1 : True := trivial
          clear hw3 hb3 hn3 hgb c30 c31 o0 o1 N1 N2
          go_region_held3 (fun W => Below wq.heap.size w3 W ∧ gb < W.heap.size ∧ W.cell? ⟨gb, 0, none⟩ = some (.int .i64 x) ∧ W.cell? ⟨gb, 1, none⟩ = some (.int .i64 y)) (first | assumption | exact ss_alloc _ HB3z.out (by assumption) | exact ss_below (by assumption) HB3z.out (by assumption)) (first
            | (go_at_call 11; have _t := tok1; go_loud (refine (HN.out _).mono ?_; rintro e w5 ⟨rfl, hb5⟩; have B5 := And.intro trivial hb5; have OX5 := Lib.hid (own_below (w := w3.drew) (show w3.drew.ownsRow _ _ _ _ _ _ from OX3.out) hb5 (Nat.le_refl _)); have OY5 := Lib.hid (own_below (w := w3.drew) (show w3.drew.ownsRow _ _ _ _ _ _ from OY3.out) hb5 (Nat.le_refl _)); have hz5 : w3.heap.size ≤ w5.heap.size := hb5.size; clear hb5 tok1 _t))
            | (refine step_append_row _ #[.int .i64 x0, .int .i64 y0] w5.heap.size rfl (.tmp 109) (.tmp 113) 34 rfl wq.heap.size 23 i23 (.agg #[.int .i64 0, .int .i64 0]) 2 16 Try.underlying34 E0 E1 E2 E3 rfl (by decide) (.slice X j cX) j _ rfl (OX5.out.alloc _) rfl (by simp [Value.oneCell']) (heap_alloc_new w5 _) rfl (by omega) (by decide) (by simp; omega) ?_; intro g6 cap6 w6 hown6 hgr6 hat6 hlt6; have OX6 := Lib.hid (HX1.out ▸ hown6); have OY6 := Lib.hid (own_apart (OY5.out.alloc _) hgr6 rfl AP3.out); have AP6 := Lib.hid (apart_to AP3.out (OY5.out.alloc _) (hat6.imp id (fun h => Nat.le_of_eq h.symm)) (rfl : Value.slice (some ⟨g6, 0, none⟩) (j + 1) cap6 = _)); have S6 := ss_app (by assumption) HB3z.out (OX5.out.alloc _) hgr6 NX.out; have hz6 := hgr6.size; simp at hz6; clear hown6 hgr6 hat6)
            | (go_at_call 11; go_loud (refine (HN.out _).mono ?_; rintro e w7 ⟨rfl, hb7⟩; have B7 := And.intro trivial hb7; have OX7 := Lib.hid (own_below OX6.out hb7 (Nat.le_refl _)); have OY7 := Lib.hid (own_below OY6.out hb7 (Nat.le_refl _)); have hz7 : w6.heap.size ≤ w7.heap.size := hb7.size; clear hb7))
            | (go_at_call 12; go_loud (refine (HA3.out _ (And.left (by assumption))).mono ?_; rintro e w8 ⟨rfl, hb8⟩; have B8 := And.intro trivial hb8; have OX8 := Lib.hid (own_below OX7.out hb8 (Nat.le_refl _)); have OY8 := Lib.hid (own_below OY7.out hb8 (Nat.le_refl _)); have hz8 : w7.heap.size ≤ w8.heap.size := hb8.size; clear hb8))
            | (refine step_append_row _ #[.int .i64 (x0 + bx), .int .i64 (y0 + bY)] w8.heap.size rfl (.tmp 115) (.tmp 121) 34 rfl wq.heap.size 23 i23 (.agg #[.int .i64 0, .int .i64 0]) 2 16 Try.underlying34 E0 E1 E2 E3 rfl (by decide) (.slice Y j cY) j _ rfl (OY8.out.alloc _) rfl (by simp [Value.oneCell']) (heap_alloc_new w8 _) rfl (by omega) (by decide) (by simp; omega) ?_; intro g9 cap9 w9 hown9 hgr9 hat9 hlt9; have S9 := ss_app (by assumption) HB3z.out (OY8.out.alloc _) hgr9 NY.out; have T9 : Hid (TW wq.heap.size wq w9 (.slice (some ⟨g6, 0, none⟩) (j + 1) cap6) (.slice (some ⟨g9, 0, none⟩) (j + 1) cap9) (j + 1) f1 f2) := Lib.hid ⟨own_apart (OX8.out.alloc _) hgr9 rfl AP6.out.symm, HX2.out ▸ hown9, (apart_to AP6.out.symm (OX8.out.alloc _) (hat9.imp id (fun h => Nat.le_of_eq h.symm)) rfl).symm, HB3.out.trans S9.1⟩; clear hown9 hgr9 hat9))
          go_wp2_with fail
          go_roundw
          case rel => exact ⟨j + 1, _, _, _, _, by omega, by go_num, rfl, rfl, T9⟩
          case measure => simp [intOf]; omega
        · obtain rfl : nn = j := by omega
          have hzw := HT.out.bel.size
          obtain ⟨hr, cod, S, hhr, hp1, hp2⟩ := Pics cx0 cy0 sc wd0 ht0 bx bY HNN.out.1 HNN.out.2.1 HNN.out.2.2.1 HNN.out.2.2.2.1 HNN.out.2.2.2.2.1 HNN.out.2.2.2.2.2 mm nn HMM2.out.2 hnn2 (fun i => min (N i) 6) F1 F2 f1 f2 HF2.out Hf2.out
            (fun i => by
              have a1 := (Hf1.out i).1
              have a2 := (Hf1.out i).2
              have b1 := cutI_bd (n := (f i).1) (show (-90000 : Int) ≤ 90000 by decide)
              have b2 := cutI_bd (n := (f i).2) (show (-90000 : Int) ≤ 90000 by decide)
              rw [← a1] at b1
              rw [← a2] at b2
              unfold PtOk; omega)
            (fun i => by
              have a1 := (Hf1.out i).1
              have a2 := (Hf1.out i).2
              have b1 := cutI_bd (n := (f i).1) (show (-90000 : Int) ≤ 90000 by decide)
              have b2 := cutI_bd (n := (f i).2) (show (-90000 : Int) ≤ 90000 by decide)
              rw [← a1] at b1
              rw [← a2] at b2
              have c1 := (Hf2.out i).1
              have c2 := (Hf2.out i).2
              have d := HNN.out
              unfold PtOk; omega)
          have HP1 := Lib.hid hp1
          have HP2 := Lib.hid hp2
          have hFo1 : ∀ i j, PtOk (F1 i j) ∧ PtOk (F2 i j) := fun i j => by
            have a1 := (HF1.out i j).1
            have a2 := (HF1.out i j).2
            have b1 := cutI_bd (n := (F i j).1) (show (-90000 : Int) ≤ 90000 by decide)
            have b2 := cutI_bd (n := (F i j).2) (show (-90000 : Int) ≤ 90000 by decide)
            rw [← a1] at b1
            rw [← a2] at b2
            have c1 := (HF2.out i j).1
            have c2 := (HF2.out i j).2
            have d := HNN.out
            unfold PtOk; omega
          obtain ⟨hq1, hq2⟩ := (HBt.out.below (HT.out.bel.mono (Nat.le_refl _))).polys (fun i _ => by show min (N i) 6 ≤ 16; omega) (fun i _ j _ => (hFo1 i j).1) (fun i _ j _ => (hFo1 i j).2)
          have HQ1 := Lib.hid hq1
          have HQ2 := Lib.hid hq2
          have HX := Lib.hid (Sl_flat (k := 2) (e := 23) (row := ptRow f1) (fun _ _ => rfl) HT.out.x)
          have HY := Lib.hid (Sl_flat (k := 2) (e := 23) (row := ptRow f2) (fun _ _ => rfl) HT.out.y)
          have HSw := Lib.hid (HSo.out.below HT.out.bel (by omega))
          have v0 := cell_of_row wr v 0 _ 25 (0, 0) HSw.out.1
          have v1 := cell_of_row wr v 1 _ 25 (0, 0) HSw.out.1
          have v2 := cell_of_row wr v 2 _ 25 (0, 0) HSw.out.1
          have v3 := cell_of_row wr v 3 _ 25 (0, 0) HSw.out.1
          have v4 := cell_of_row wr v 4 _ 25 (0, 0) HSw.out.1
          have HCZ := Lib.hid (show ∀ W, Below wr.heap.size wr W → W.cell? ⟨z, 0, none⟩ = some (.int .i64 (cx0 + bx)) ∧ W.cell? ⟨z, 1, none⟩ = some (.int .i64 (cy0 + bY)) ∧ W.cell? ⟨z, 2, none⟩ = some (.int .i64 sc) ∧ W.cell? ⟨z, 3, none⟩ = some (.int .i64 wd0) ∧ W.cell? ⟨z, 4, none⟩ = some (.int .i64 ht0) from fun W hW => by
            have h := (hW.block z HSw.out.2.2.2.2.1).trans HSw.out.2.2.1
            exact ⟨cell_of_row W z 0 _ 25 (0, 0) h, cell_of_row W z 1 _ 25 (0, 0) h, cell_of_row W z 2 _ 25 (0, 0) h, cell_of_row W z 3 _ 25 (0, 0) h, cell_of_row W z 4 _ 25 (0, 0) h⟩)
          have HHr := Lib.hid hhr
          have tok1 : True := trivial
          clear hp1 hp2 hq1 hq2 hFo1 hhr
          go_wp2_with (first
            | (go_at_call 13; have _t := tok1; go_loud (refine (HP1.out _ _ _ _ _ HQ1.out HX.out).mono ?_; rintro e w6 ⟨S1, s1, rfl, hown6, hb6⟩; have HO6 := Lib.hid hown6; have HB6 := Lib.hid hb6; obtain ⟨z0, z1, z2, z3, z4⟩ := HCZ.out _ hb6; clear hown6 hb6 tok1 _t))
            | (go_at_call 13; go_loud (refine (HP2.out _ _ _ _ _ ((HQ2.out.below HB6.out).more HB6.out.size) ((HY.out.below HB6.out).more HB6.out.size)).mono ?_; rintro e w7 ⟨S2, s2, rfl, hown7, hb7⟩; have HO7 := Lib.hid (Sl_strs hown7); have HO8 := Lib.hid ((Sl_strs HO6.out).below hb7 |>.more hb7.size); have HB7 := Lib.hid hb7; clear hown7 hb7))
            | (go_at_call 10; go_loud (refine (fact_any _).mono ?_; rintro e w8 ⟨rfl, hb8⟩))
            | (go_at_call 14; go_loud (refine (EqualS S1 S2 S hr s1 s2 w8.heap.size w8 ((HO8.out.below hb8).more hb8.size) ((HO7.out.below hb8).more hb8.size) (by have := HHr.out; omega)).mono ?_; rintro e w9 ⟨rfl, q9, rfl⟩)))
          go_ret
          refine ⟨rfl, ?_⟩
          have hv := HVe.out
          rw [hv]
          exact (HSw.out.2.2.2.1.trans (HB6.out.mono (by omega))).trans ((HB7.out.trans ((below_drewN hb8 q9).mono HB7.out.size)).mono (by have := HB6.out.size; omega))

end Go.Proofs.Ytlkdjnmehnibmaa
