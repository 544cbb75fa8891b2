/- Package approach: the search, as a law and as a contract. -/
import Derived.Test.YtmdfdjgeaemicaaA3
import Derived.Test.YtmdfdjgeaemicaaB1
import Derived.Test.YtmdfdjgeaemicaaMore
import Derived.Test.YtmdfdjgeaemicaaRw
import Derived.Deep.RegionHeld3
import Derived.Deep.RegionLawGrows
import Derived.Deep.AppendLies
import Derived.Lib.BufferOwn
import Derived.Deep.DeepMust
namespace Go.Proofs.Ytmdfdjgeaemicaa
open Go.RowKit Go.Lib

def natV (x : Nat) : List Value := [.int .i64 (x : Int)]
def intV1 (x : Int) : List Value := [.int .i64 x]
def boolsV (l : List Bool) : List Value := l.map Value.bool

/-- The time of arrival i behind an order. -/
def nxS (g : Nat → Int) (its : Nat → It) (s : List Nat) (ts : List Int) (i : Nat) : Int := nextT g (fun k => (its k).wk) (fun k => s[k]!) (fun k => ts[k]!) (its i).rd (its i).wk s.length

/-- The search: the first of the arrivals from N - r on that leads on. -/
def srchK (f : Nat → Int → Option (List Nat)) (nx : Nat → Int) (its : Nat → It) (us : List Bool) (N : Nat) : Nat → Option (List Nat)
  | 0 => none
  | r + 1 => if (us[N - (r + 1)]! || decide ((its (N - (r + 1))).sl < nx (N - (r + 1)))) = true then srchK f nx its us N r else (match f (N - (r + 1)) (nx (N - (r + 1))) with | some o => some o | none => srchK f nx its us N r)
def srch (g : Nat → Int) (its : Nat → It) (N : Nat) : Nat → List Nat → List Int → List Bool → Option (List Nat)
  | 0, s, _, _ => some s
  | f + 1, s, ts, us => srchK (fun i t => srch g its N f (s ++ [i]) (ts ++ [t]) (us.set i true)) (nxS g its s ts) its us N N

theorem srchK_next {f : Nat → Int → Option (List Nat)} {nx : Nat → Int} {its : Nat → It} {us : List Bool} {N j : Nat} (hj : j < N) : srchK f nx its us N (N - j) =
    if (us[j]! || decide ((its j).sl < nx j)) = true then srchK f nx its us N (N - (j + 1)) else (match f j (nx j) with | some o => some o | none => srchK f nx its us N (N - (j + 1))) := by
  obtain ⟨r, hr⟩ : ∃ r, N - (j + 1) = r := ⟨_, rfl⟩
  rw [show N - j = r + 1 by omega, hr]
  conv => lhs; unfold srchK
  rw [show N - (r + 1) = j by omega]

/-- What search is given. -/
structure Pre (its : Nat → It) (N : Nat) (A : Option Addr) (B ub cu n : Nat) (O : Option Addr) (co : Nat) (T : Option Addr) (ct : Nat) (s : List Nat) (ts : List Int) (us : List Bool) (w : World) : Prop where
  hA : Sl w B 4 A N (fun i => (its i).row)
  hO : Sl w w.heap.size 1 O n (fun i => natV s[i]!)
  hT : Sl w w.heap.size 1 T n (fun i => intV1 ts[i]!)
  hU : w.ownsRow B 4 1 (.slice (some ⟨ub, 0, none⟩) N cu) N (boolsV us)
  oO : ∀ a, O = some a → a.block ≠ ub
  oT : ∀ a, T = some a → a.block ≠ ub
  nO : O = none → n = 0 ∧ co = 0
  nT : T = none → n = 0 ∧ ct = 0
  ls : s.length = n
  lt : ts.length = n
  lu : us.length = N
  bs : ∀ k, k < n → s[k]! < N
  bt : ∀ k, k < n → 0 ≤ ts[k]! ∧ ts[k]! ≤ 200000
  cO : n ≤ co
  cT : n ≤ ct
  bB : B ≤ ub
  bU : ub < w.heap.size

/-- What search answers. -/
def SrchP (o : Option (List Nat)) (N B ub cu : Nat) (us : List Bool) (w : World) (e : Ending) (w' : World) : Prop :=
  ∃ A c, e = .returned (.slice A (o.getD []).length c) ∧ (o = none → A = none ∧ c = 0) ∧ (o.isSome = true → A ≠ none) ∧ Sl w' w'.heap.size 1 A (o.getD []).length (fun i => natV (o.getD [])[i]!) ∧ w.grownBy w' (some ub) ∧
    (o = none → w'.ownsRow B 4 1 (.slice (some ⟨ub, 0, none⟩) N cu) N (boolsV us))
theorem SrchP.no {N B ub cu : Nat} {us : List Bool} {w w' : World} {e : Ending} (h : SrchP none N B ub cu us w e w') : e = .returned (.slice none 0 0) ∧ (True ∧ w.grownBy w' (some ub)) ∧ w'.ownsRow B 4 1 (.slice (some ⟨ub, 0, none⟩) N cu) N (boolsV us) := by
  obtain ⟨A, c, he, h1, _, _, hb, h4⟩ := h
  obtain ⟨rfl, rfl⟩ := h1 rfl
  exact ⟨he, ⟨trivial, hb⟩, h4 rfl⟩
theorem SrchP.yes {N B ub cu : Nat} {us : List Bool} {w w' : World} {e : Ending} {o : List Nat} (h : SrchP (some o) N B ub cu us w e w') : ∃ a c, e = .returned (.slice (some a) o.length c) ∧ Sl w' w'.heap.size 1 (some a) o.length (fun i => natV o[i]!) ∧ (True ∧ w.grownBy w' (some ub)) := by
  obtain ⟨A, c, he, _, h2, h3, hb, _⟩ := h
  obtain ⟨a, rfl⟩ := Option.ne_none_iff_exists'.1 (h2 rfl)
  exact ⟨a, c, he, h3, trivial, hb⟩

theorem gb_cell {w w' : World} {ub : Nat} (h : w.grownBy w' (some ub)) {p : Addr} (hp : p.block < w.heap.size) (hne : p.block ≠ ub) : w'.cell? p = w.cell? p := h.cell_far p hp (fun e => hne (Option.some.inj e))
theorem Sl.gbB {w w' : World} {B k n ub : Nat} {A : Option Addr} {row : Nat → List Value} (h : Sl w B k A n row) (hg : w.grownBy w' (some ub)) (hB : B ≤ ub) (hu : ub < w.heap.size) : Sl w' B k A n row :=
  h.keep fun p hp => gb_cell hg (by omega) (by omega)
theorem Sl.gbN {w w' : World} {k n ub : Nat} {A : Option Addr} {row : Nat → List Value} (h : Sl w w.heap.size k A n row) (hg : w.grownBy w' (some ub)) (hA : ∀ a, A = some a → a.block ≠ ub) : Sl w' w'.heap.size k A n row := fun hn => by
  obtain ⟨b, o, rfl, hb, hr⟩ := h hn
  refine ⟨b, o, rfl, Nat.lt_of_lt_of_le hb hg.size, fun i hi j u hu => ?_⟩
  exact (gb_cell hg (p := ⟨b, o + i * k + j, none⟩) hb (hA ⟨b, o, none⟩ rfl)).trans (hr i hi j u hu)
theorem gb_below {w w' w'' : World} {ub : Nat} (h : w.grownBy w' (some ub)) (hb : Below w'.heap.size w' w'') : w.grownBy w'' (some ub) := grownBy_below h hb
theorem gb_of_below {w w' : World} {ub : Nat} (hb : Below w.heap.size w w') : w.grownBy w' (some ub) := grownBy_below (World.grownBy.refl w _) hb
theorem gb_box {w w' : World} {ub N : Nat} {x : Obj} (h : w.grownBy w' (some ub)) (hx : w.heap[N]? = some x) (hne : N ≠ ub) : w'.heap[N]? = some x :=
  (h.block N (Array.getElem?_eq_some_iff.1 hx).1 (fun e => hne (Option.some.inj e))).trans hx

/-- The region's worlds: what was there is there still, but the row of the used. -/
theorem sk_alloc {w3 W : World} {ub N : Nat} {x : Obj} (o : Obj) (hs : w3.grownBy W (some ub) ∧ W.heap[N]? = some x) : w3.grownBy (W.alloc o) (some ub) ∧ (W.alloc o).heap[N]? = some x :=
  ⟨gb_below hs.1 ((Below.refl _ W).alloc (Nat.le_refl _) o), (Below.heap_alloc _ _ _ (Array.getElem?_eq_some_iff.1 hs.2).1).trans hs.2⟩
theorem sk_below {w3 W W' : World} {ub N : Nat} {x : Obj} (hb : Below W.heap.size W W') (hs : w3.grownBy W (some ub) ∧ W.heap[N]? = some x) : w3.grownBy W' (some ub) ∧ W'.heap[N]? = some x :=
  ⟨gb_below hs.1 hb, (hb.block _ (Array.getElem?_eq_some_iff.1 hs.2).1).trans hs.2⟩
theorem sk_grown {w3 W W' : World} {ub N : Nat} {x : Obj} (hne : N ≠ ub) (hb : True ∧ W.grownBy W' (some ub)) (hs : w3.grownBy W (some ub) ∧ W.heap[N]? = some x) : w3.grownBy W' (some ub) ∧ W'.heap[N]? = some x :=
  ⟨grownBy_trans hs.1 hb.2, gb_box hb.2 hs.2 hne⟩
theorem below_grow {W W' : World} (h : W.grownBy W' none) : Below W.heap.size W W' := (Below.refl _ W).grown h (Nat.le_refl _) (fun k hk => by cases hk)
theorem Sl_cells {α : Type} [Inhabited α] {enc : α → List Value} {k : Nat} (hk : ∀ x, (enc x).length = k) {w : World} {b o n : Nat} {s : List α} (h : ∀ i, i < n → w.rangeAt b (o + i * k) (enc s[i]!)) (hl : s.length = n) (hk0 : 0 < k) :
    ∀ j u, (rowsV enc s)[j]? = some u → w.cell? ⟨b, o + j, none⟩ = some u := fun j u hu => by
  rw [rowsV_flat hk s, hl] at hu
  obtain ⟨h1, h2⟩ := flatR_at (row := fun i => enc s[i]!) hk0 (fun _ _ => hk _) hu
  have := h (j / k) h1 (j % k) u h2
  have hjd : j / k * k + j % k = j := by rw [Nat.mul_comm]; exact Nat.div_add_mod j k
  rw [show o + j / k * k + j % k = o + j by omega] at this
  exact this
/-- The cells of a row of one-cell things in a world of the region. -/
theorem sk_row {α : Type} [Inhabited α] {enc : α → List Value} (hk : ∀ x, (enc x).length = 1) {w w3 W : World} {O : Option Addr} {n ub : Nat} {s : List α} {Q : Prop} (h : Sl w w.heap.size 1 O n (fun i => enc s[i]!)) (hl : s.length = n) (hne : ∀ a, O = some a → a.block ≠ ub) (hg : w.grownBy w3 (some ub)) (hS : w3.grownBy W (some ub) ∧ Q) :
    ∀ b' : Addr, O = some b' → ∀ j u, (rowsV enc s)[j]? = some u → W.cell? (b'.add j) = some u := fun b' hb' j u hu => by
  subst hb'
  have hj : j < n := by
    have := (List.getElem?_eq_some_iff.1 hu).1
    rw [rowsV_len hk, hl] at this; omega
  obtain ⟨b1, o1, he, hb, hr⟩ := (h.gbN (grownBy_trans hg hS.1) hne) (by omega)
  obtain rfl := Option.some.inj he
  rw [Addr.add_lit]
  exact Sl_cells hk hr hl (by decide) j u hu
theorem sk_new {W : World} {N : Nat} {cs : Array Value} {e : TypeId} (h : W.heap[N]? = some (.cells cs e (0, 0))) : ∀ j u, cs.toList[j]? = some u → W.cell? ((⟨N, 0, none⟩ : Addr).add j) = some u := fun j u hu => by
  rw [Addr.add_mid, Nat.zero_add, cell_of_row _ _ _ _ _ _ h]
  simpa using hu
theorem snoc_get {α : Type} [Inhabited α] {l : List α} {x : α} {n k : Nat} (hl : l.length = n) (P : α → Prop) (h : ∀ k, k < n → P l[k]!) (hx : P x) (hk : k < n + 1) : P (l ++ [x])[k]! := by
  by_cases e : k < n
  · have := h k e
    rwa [show (l ++ [x])[k]! = l[k]! by simp [List.getElem?_append_left (show k < l.length by omega)]]
  · obtain rfl : k = n := by omega
    subst hl
    simpa using hx
theorem bools_set {us : List Bool} {j : Nat} {b : Bool} : (boolsV us).set j (.bool b) = boolsV (us.set j b) := by simp [boolsV, List.map_set]
theorem bools_back {us : List Bool} {j : Nat} (h : us[j]! = false) (hj : j < us.length) : (us.set j true).set j false = us := by
  rw [List.set_set]
  apply List.ext_getElem (by simp)
  intro i h1 h2
  rw [List.getElem_set]
  split
  · rename_i e; subst e
    have : us[j]! = us[j] := getElem!_pos us j hj
    rw [← this, h]
  · rfl
end Go.Proofs.Ytmdfdjgeaemicaa
