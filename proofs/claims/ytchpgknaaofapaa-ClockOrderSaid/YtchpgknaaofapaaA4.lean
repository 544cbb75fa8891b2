/- Package clock: vectors: the words of its proof. -/
import Derived.Test.YtchpgknaaofapaaA3
import Derived.Test.YtchpgknaaofapaaClone
namespace Go.Proofs.Ytchpgknaaofapaa
open Go.RowKit

def VvE (l : List Ev) (i s : Nat) : Int := Clk.Vv (sa l) (sj l) (rc l) i s
def LaE (l : List Ev) (i a s : Nat) : Int := Clk.La (sa l) (sj l) (rc l) i a s
def bsE (l : List Ev) (j s : Nat) : Int := if rc l j = true then max (LaE l j (sa l j) s) (VvE l (sj l j) s) else LaE l j (sa l j) s
theorem VvE_eq {l : List Ev} (h : checkE l = 0) {j : Nat} (hj : j < l.length) (s : Nat) : VvE l j s = bsE l j s + if s = sa l j then 1 else 0 :=
  Clk.Vv_eq (sa := sa l) (sj := sj l) (rc := rc l) j s (code_sj h j hj)
theorem LaE_succ (l : List Ev) (j a s : Nat) : LaE l (j + 1) a s = if a = sa l j then VvE l j s else LaE l j a s := Clk.La_succ (sa := sa l) (sj := sj l) (rc := rc l) j a s
theorem LaE_bd {l : List Ev} (h : checkE l = 0) {j : Nat} (hj : j ≤ l.length) (a s : Nat) : 0 ≤ LaE l j a s ∧ LaE l j a s ≤ j := Clk.La_bd (sa := sa l) (sj := sj l) (rc := rc l) (code_sj h) hj a s
theorem VvE_bd {l : List Ev} (h : checkE l = 0) {j : Nat} (hj : j < l.length) (s : Nat) : 0 ≤ VvE l j s ∧ VvE l j s ≤ j + 1 := Clk.Vv_pos (sa := sa l) (sj := sj l) (rc := rc l) (code_sj h) hj s

/-- A list of rows of eight numbers, all of the call's own. -/
structure VecRows (w : World) (base : Nat) (v : Value) (n : Nat) (hs : List Value) (V : Nat → Nat → Int) : Prop where
  own : w.ownsRow base 28 1 v n hs
  row : ∀ i, i < n → ∃ g cap, hs[i]? = some (.slice (some ⟨g, 0, none⟩) 8 cap) ∧ v.ownBlock ≠ some g ∧ w.ownsRow base 3 1 (.slice (some ⟨g, 0, none⟩) 8 cap) 8 (intsV ((List.range 8).map (V i)))

theorem VecRows.below {w w' : World} {base : Nat} {v : Value} {n : Nat} {hs : List Value} {V : Nat → Nat → Int} (h : VecRows w base v n hs V) (hb : Below w.heap.size w w') : VecRows w' base v n hs V :=
  ⟨own_below h.own hb (Nat.le_refl _), fun i hi => by
    obtain ⟨g, cap, h1, h2, h3⟩ := h.row i hi
    exact ⟨g, cap, h1, h2, own_below h3 hb (Nat.le_refl _)⟩⟩
theorem VecRows.kept {w w' : World} {base : Nat} {v : Value} {n : Nat} {hs : List Value} {V : Nat → Nat → Int} (h : VecRows w base v n hs V) {k : Nat} (hk : k < base) (hg : w.grownBy w' (some k)) : VecRows w' base v n hs V :=
  ⟨h.own.kept hg (own_ne h.own hk), fun i hi => by
    obtain ⟨g, cap, h1, h2, h3⟩ := h.row i hi
    exact ⟨g, cap, h1, h2, h3.kept hg (own_ne h3 hk)⟩⟩
theorem VecRows.drewN {w : World} {base : Nat} {v : Value} {n : Nat} {hs : List Value} {V : Nat → Nat → Int} (h : VecRows w base v n hs V) (q : Nat) : VecRows (w.drewN q) base v n hs V := ⟨h.own, h.row⟩
theorem VecRows.alloc {w : World} {base : Nat} {v : Value} {n : Nat} {hs : List Value} {V : Nat → Nat → Int} (h : VecRows w base v n hs V) (o : Obj) : VecRows (w.alloc o) base v n hs V :=
  h.below ((Below.refl _ _).alloc (Nat.le_refl _) _)
/-- One row more. -/
theorem VecRows.snoc {w w' : World} {base B : Nat} {v v' : Value} {n g cap : Nat} {hs : List Value} {V : Nat → Nat → Int} {o : Obj} (h : VecRows w base v n hs V)
    (hv : w.ownsRow B 3 1 (.slice (some ⟨g, 0, none⟩) 8 cap) 8 (intsV ((List.range 8).map (V n)))) (hB : base ≤ B) (hgv : v.ownBlock ≠ some g)
    (hg : (w.alloc o).grownBy w' v.ownBlock) (hown : w'.ownsRow base 28 1 v' (n + 1) (hs ++ [.slice (some ⟨g, 0, none⟩) 8 cap])) (hat : v'.ownBlock = v.ownBlock ∨ ∃ k, v'.ownBlock = some k ∧ w.heap.size ≤ k) :
    VecRows w' base v' (n + 1) (hs ++ [.slice (some ⟨g, 0, none⟩) 8 cap]) V := by
  have hl : hs.length = n := by have := h.own.1; omega
  refine ⟨hown, fun i hi => ?_⟩
  have key : ∀ {g' cap' : Nat} {B' : Nat} {xs : List Value}, v.ownBlock ≠ some g' → w.ownsRow B' 3 1 (.slice (some ⟨g', 0, none⟩) 8 cap') 8 xs → v'.ownBlock ≠ some g' ∧ w'.ownsRow B' 3 1 (.slice (some ⟨g', 0, none⟩) 8 cap') 8 xs := fun {g' cap' B' xs} h1 h2 => by
    have hlt := (h2.lt g' rfl).2
    refine ⟨fun e => ?_, (h2.alloc o).kept hg (.inr (fun e => h1 e.symm))⟩
    rcases hat with hat | ⟨k, hk, hlek⟩
    · exact h1 (hat ▸ e)
    · rw [hk] at e; injection e with e; omega
  by_cases e : i = n
  · subst e
    obtain ⟨h1, h2⟩ := key hgv hv
    exact ⟨g, cap, by rw [List.getElem?_append_right (by omega), hl]; simp, h1, own_mono h2 hB⟩
  · obtain ⟨g', cap', h1, h2, h3⟩ := h.row i (by omega)
    obtain ⟨h4, h5⟩ := key h2 h3
    exact ⟨g', cap', by rw [List.getElem?_append_left (by omega)]; exact h1, h4, h5⟩

/-- The table of the sites' last vectors, in one row. -/
def laT (l : List Ev) (j q : Nat) : Int := LaE l j (q / 8) (q % 8)
def mxT (l : List Ev) (j a r s q : Nat) : Int := if q / 8 = a ∧ q % 8 < s then max (LaE l j a (q % 8)) (VvE l r (q % 8)) else laT l j q
theorem mxT_set {l : List Ev} {j a r s : Nat} (ha : a < 8) (hs : s < 8) (q : Nat) (hq : q < 64) : (if q = a * 8 + s then max (LaE l j a s) (VvE l r s) else mxT l j a r s q) = mxT l j a r (s + 1) q := by
  unfold mxT
  by_cases e : q = a * 8 + s
  · rw [if_pos e, if_pos (by omega), show q % 8 = s by omega]
  · rw [if_neg e]
    by_cases c : q / 8 = a ∧ q % 8 < s
    · rw [if_pos c, if_pos (by omega)]
    · rw [if_neg c, if_neg (by omega)]
theorem mxT_zero {l : List Ev} {j a r : Nat} (q : Nat) : laT l j q = mxT l j a r 0 q := by unfold mxT; rw [if_neg (by omega)]
def bsT (l : List Ev) (j q : Nat) : Int := if q / 8 = sa l j then bsE l j (q % 8) else laT l j q
theorem bsT_of {l : List Ev} {j : Nat} (hr : rc l j = true) (q : Nat) (hq : q < 64) : mxT l j (sa l j) (sj l j) 8 q = bsT l j q := by
  unfold mxT bsT bsE
  by_cases c : q / 8 = sa l j
  · rw [if_pos ⟨c, by omega⟩, if_pos c, if_pos hr]
  · rw [if_neg (fun h => c h.1), if_neg c]
theorem bsT_no {l : List Ev} {j : Nat} (hr : ¬ rc l j = true) (q : Nat) (_hq : q < 64) : laT l j q = bsT l j q := by
  unfold bsT bsE laT
  rw [if_neg hr]
  by_cases c : q / 8 = sa l j
  · rw [if_pos c, c]
  · rw [if_neg c]
theorem bsT_set {l : List Ev} (h : checkE l = 0) {j : Nat} (hj : j < l.length) (ha : sa l j < 8) (q : Nat) (hq : q < 64) :
    (if q = sa l j * 8 + sa l j then bsE l j (sa l j) + 1 else bsT l j q) = laT l (j + 1) q := by
  unfold laT bsT
  rw [LaE_succ]
  by_cases e : q = sa l j * 8 + sa l j
  · rw [if_pos e, if_pos (by omega), show q % 8 = sa l j by omega, VvE_eq h hj, if_pos rfl]
  · rw [if_neg e]
    by_cases c : q / 8 = sa l j
    · rw [if_pos c, if_pos c, VvE_eq h hj, if_neg (by omega)]; simp
    · rw [if_neg c, if_neg c]; rfl
theorem bsE_bd {l : List Ev} (h : checkE l = 0) {j : Nat} (hj : j < l.length) (s : Nat) : 0 ≤ bsE l j s ∧ bsE l j s ≤ j + 1 := by
  unfold bsE
  have := LaE_bd h (j := j) (by omega) (sa l j) s
  by_cases hr : rc l j = true
  · rw [if_pos hr]
    have h2 := code_sj h j hj hr
    have := VvE_bd h (j := sj l j) (by omega) s
    omega
  · rw [if_neg hr]; omega
end Go.Proofs.Ytchpgknaaofapaa
