/- Package screen: what a picture of polygons and points is. -/
import Derived.Test.YtlkdjnmehnibmaaG1
namespace Go.Proofs.Ytlkdjnmehnibmaa
open Go.RowKit

abbrev Grid := Nat → Nat → Int
def fM (c : Int) (p : Nat → Int × Int) (k : Nat) (f : Grid) : Grid := fun y x => if hitB p k y x = true then c else f y x
theorem fM_zero (c : Int) (p : Nat → Int × Int) (f : Grid) : fM c p 0 f = f := by funext y x; rfl
/-- One cell more that is seen. -/
theorem fM_seen {c : Int} {p : Nat → Int × Int} {k : Nat} {f : Grid} {xx yy : Nat} (h1 : (p k).1 = xx) (h2 : (p k).2 = yy) (y x : Nat) : (if y = yy ∧ x = xx then c else fM c p k f y x) = fM c p (k + 1) f y x := by
  unfold fM
  rw [hit_succ, h1, h2]
  by_cases e : y = yy ∧ x = xx
  · obtain ⟨rfl, rfl⟩ := e
    simp
  · rw [if_neg e]
    have : (decide ((xx : Int) = (x : Int)) && decide ((yy : Int) = (y : Int))) = false := by
      rw [Bool.eq_false_iff]
      intro h
      simp only [Bool.and_eq_true, decide_eq_true_eq] at h
      exact e ⟨by omega, by omega⟩
    rw [this, Bool.or_false]
theorem fM_hid {c : Int} {p : Nat → Int × Int} {k : Nat} {f : Grid} {wd ht : Nat} (h : ¬ (0 ≤ (p k).1 ∧ (p k).1 < (wd : Int) ∧ 0 ≤ (p k).2 ∧ (p k).2 < (ht : Int))) (y x : Nat) (hy : y < ht) (hx : x < wd) : fM c p k f y x = fM c p (k + 1) f y x := by
  unfold fM
  rw [hit_succ]
  have : (decide ((p k).1 = (x : Int)) && decide ((p k).2 = (y : Int))) = false := by
    rw [Bool.eq_false_iff]
    intro h'
    simp only [Bool.and_eq_true, decide_eq_true_eq] at h'
    exact h ⟨by omega, by omega, by omega, by omega⟩
  rw [this, Bool.or_false]

def lnFar (a b : Int × Int) : Bool := farB a.1 a.2 || farB b.1 b.2
def lnCnt (a b : Int × Int) : Nat := if lnFar a b = true then 0 else (lnN (b.1 - a.1) (b.2 - a.2)).toNat + 1
def lnCode (a b : Int × Int) : Int := if lnFar a b = true then 4 else 0
def lnCells (a b : Int × Int) : Nat → Int × Int := lnF a.1 a.2 (b.1 - a.1) (b.2 - a.2) ((lnN (b.1 - a.1) (b.2 - a.2)).toNat : Nat)
theorem Line_S (a b : Int × Int) : LineS a.1 a.2 b.1 b.2 (lnCnt a b) (lnCode a b) (lnCells a b) ∧ lnCnt a b ≤ 5000 := by
  unfold lnCnt lnCode lnCells lnFar
  cases h : (farB a.1 a.2 || farB b.1 b.2) with
  | true =>
    refine ⟨fun w => ?_, by simp⟩
    exact (Line_far a.1 a.2 b.1 b.2 w h).mono fun e w' ⟨h1, h2⟩ => ⟨none, 0, h1, World.ownsRow_nil _ _ _ _, h2⟩
  | false =>
    have h' := h
    rw [Bool.or_eq_false_iff] at h
    have hN : ((lnN (b.1 - a.1) (b.2 - a.2)).toNat : Int) = lnN (b.1 - a.1) (b.2 - a.2) := by have := lnN_nonneg (b.1 - a.1) (b.2 - a.2); omega
    have b1 := far_in h.1
    have b2 := far_in h.2
    refine ⟨fun w => ?_, ?_⟩
    · exact Line_ok a.1 a.2 b.1 b.2 _ w h.1 h.2 hN
    · simp only [Bool.false_eq_true, if_false]
      unfold lnN at hN ⊢
      omega

/-- The edges of one polygon, of all polygons, the points. -/
def edgeF (q : Nat → Int × Int) (n k : Nat) (f : Grid) : Grid := fM 46 (lnCells (q k) (q ((k + 1) % n))) (lnCnt (q k) (q ((k + 1) % n))) f
def polyF (q : Nat → Int × Int) (n : Nat) : Nat → Grid → Grid
  | 0, f => f
  | k + 1, f => edgeF q n k (polyF q n k f)
def allF (Q : Nat → Nat → Int × Int) (N : Nat → Nat) : Nat → Grid → Grid
  | 0, f => f
  | m + 1, f => polyF (Q m) (N m) (N m) (allF Q N m f)
def picF (Q : Nat → Nat → Int × Int) (N : Nat → Nat) (m : Nat) (p : Nat → Int × Int) (n : Nat) : Grid := fM 111 p n (allF Q N m fun _ _ => 32)

/-- A line's cells in a block from Z on. -/
def LineAt (W : World) (Z : Nat) (A : Option Addr) (n : Nat) (F : Nat → Int × Int) : Prop :=
  ∀ i, i < n → ∃ g, A = some ⟨g, 0, none⟩ ∧ Z ≤ g ∧ g < W.heap.size ∧ W.cell? ⟨g, i * 2, none⟩ = some (.int .i64 (F i).1) ∧ W.cell? ⟨g, i * 2 + 1, none⟩ = some (.int .i64 (F i).2)
theorem LineAt.of_own {W : World} {base Z n c : Nat} {A : Option Addr} {F : Nat → Int × Int} (h : W.ownsRow base 27 2 (.slice A n c) n (flatR (ptRow F) n)) (hZ : Z ≤ base) : LineAt W Z A n F := fun i hi => by
  obtain ⟨g, cap, hv, hbg, hlt⟩ := h.form (by omega)
  obtain rfl : A = some ⟨g, 0, none⟩ := by injection hv
  have hl : ∀ i, i < n → (ptRow F i).length = 2 := fun _ _ => rfl
  refine ⟨g, rfl, Nat.le_trans hZ hbg, hlt, ?_, ?_⟩
  · have := h.cellAt (i * 2) (by omega)
    rw [this]
    exact flatR_get (k := 2) n hl i 0 hi (by decide)
  · have := h.cellAt (i * 2 + 1) (by omega)
    rw [this]
    exact flatR_get (k := 2) n hl i 1 hi (by decide)
theorem LineAt.below {W W' : World} {Z n : Nat} {A : Option Addr} {F : Nat → Int × Int} (h : LineAt W Z A n F) (hb : Below W.heap.size W W') : LineAt W' Z A n F := fun i hi => by
  obtain ⟨g, h1, h2, h3, h4, h5⟩ := h i hi
  exact ⟨g, h1, h2, Nat.lt_of_lt_of_le h3 hb.size, (hb.cell (p := ⟨g, i * 2, none⟩) h3).trans h4, (hb.cell (p := ⟨g, i * 2 + 1, none⟩) h3).trans h5⟩
theorem LineAt.set {W : World} {Z n : Nat} {A : Option Addr} {F : Nat → Int × Int} (h : LineAt W Z A n F) {b o : Nat} (v : Value) (hb : b < Z) : LineAt (W.setCell ⟨b, o, none⟩ v) Z A n F := fun i hi => by
  obtain ⟨g, h1, h2, h3, h4, h5⟩ := h i hi
  have hk : (W.setCell ⟨b, o, none⟩ v).heap[g]? = W.heap[g]? := Below.heap_setCell _ _ _ _ (by show g ≠ b; omega)
  exact ⟨g, h1, h2, by simpa [World.setCell] using h3, (World.cell?_of_block (w := W) hk).trans h4, (World.cell?_of_block (w := W) hk).trans h5⟩

/-- The region that finds a line: its worlds. -/
theorem sv_below {w3 W W' : World} {a0 a1 a2 a3 a4 a5 a6 a7 a8 : Addr} {u0 u1 u2 u3 u4 u5 u6 u7 u8 : Value}
    (h : a0.block < w3.heap.size ∧ a1.block < w3.heap.size ∧ a2.block < w3.heap.size ∧ a3.block < w3.heap.size ∧ a4.block < w3.heap.size ∧ a5.block < w3.heap.size ∧ a6.block < w3.heap.size ∧ a7.block < w3.heap.size ∧ a8.block < w3.heap.size)
    (hb : True ∧ Below W.heap.size W W') (hs : Below w3.heap.size w3 W ∧ W.cell? a0 = some u0 ∧ W.cell? a1 = some u1 ∧ W.cell? a2 = some u2 ∧ W.cell? a3 = some u3 ∧ W.cell? a4 = some u4 ∧ W.cell? a5 = some u5 ∧ W.cell? a6 = some u6 ∧ W.cell? a7 = some u7 ∧ W.cell? a8 = some u8) :
    Below w3.heap.size w3 W' ∧ W'.cell? a0 = some u0 ∧ W'.cell? a1 = some u1 ∧ W'.cell? a2 = some u2 ∧ W'.cell? a3 = some u3 ∧ W'.cell? a4 = some u4 ∧ W'.cell? a5 = some u5 ∧ W'.cell? a6 = some u6 ∧ W'.cell? a7 = some u7 ∧ W'.cell? a8 = some u8 := by
  obtain ⟨h0, h1, h2, h3, h4, h5, h6, h7, h8⟩ := h
  obtain ⟨hs, s0, s1, s2, s3, s4, s5, s6, s7, s8⟩ := hs
  have hz := hs.size
  exact ⟨hs.trans (hb.2.mono hz), (hb.2.cell (Nat.lt_of_lt_of_le h0 hz)).trans s0, (hb.2.cell (Nat.lt_of_lt_of_le h1 hz)).trans s1, (hb.2.cell (Nat.lt_of_lt_of_le h2 hz)).trans s2, (hb.2.cell (Nat.lt_of_lt_of_le h3 hz)).trans s3, (hb.2.cell (Nat.lt_of_lt_of_le h4 hz)).trans s4, (hb.2.cell (Nat.lt_of_lt_of_le h5 hz)).trans s5, (hb.2.cell (Nat.lt_of_lt_of_le h6 hz)).trans s6, (hb.2.cell (Nat.lt_of_lt_of_le h7 hz)).trans s7, (hb.2.cell (Nat.lt_of_lt_of_le h8 hz)).trans s8⟩
end Go.Proofs.Ytlkdjnmehnibmaa
