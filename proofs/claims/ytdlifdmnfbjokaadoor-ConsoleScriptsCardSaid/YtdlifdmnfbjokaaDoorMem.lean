/- Words for memory: a slice that reads row by row; arrays by value; small laws. -/
import Derived.Test.YtdlifdmnfbjokaaDoorProg
import Derived.WalkKit
import Derived.WalkSpells
import Derived.WalkLawsBesides
import Derived.Lib.Hide
import Derived.Deep.MidRow
import Derived.Deep.Draws
import Derived.Laws.OwnMore
import Derived.Laws.AppendOwn
import Derived.Deep.AppendLies
namespace Go.Proofs.YtdlifdmnfbjokaaDoor
open Go.RowKit

theorem ret_int {k : IntKind} {a b : Int} (h : a = b) : Ending.returned (.int k a) = .returned (.int k b) := by rw [h]

/-- The slice '.slice A n c' holds n rows of k cells, below block B. -/
def Sl (w : World) (B k : Nat) (A : Option Addr) (n : Nat) (row : Nat → List Value) : Prop :=
  0 < n → ∃ b off, A = some ⟨b, off, none⟩ ∧ b < B ∧ ∀ i, i < n → w.rangeAt b (off + i * k) (row i)

section
variable {w w' : World} {B B' k n : Nat} {A : Option Addr} {row : Nat → List Value}

theorem Sl.none_ : Sl w B k none 0 row := fun h => absurd h (by omega)

theorem Sl.keep (h : Sl w B k A n row) (hk : ∀ p : Addr, p.block < B → w'.cell? p = w.cell? p) : Sl w' B k A n row := fun hn => by
  obtain ⟨b, off, e, hb, hr⟩ := h hn
  exact ⟨b, off, e, hb, fun i hi j v hv => (hk ⟨b, _, none⟩ hb).trans (hr i hi j v hv)⟩
theorem Sl.more (h : Sl w B k A n row) (hB : B ≤ B') : Sl w B' k A n row := fun hn => by
  obtain ⟨b, off, e, hb, hr⟩ := h hn
  exact ⟨b, off, e, by omega, hr⟩
theorem Sl.below (h : Sl w B k A n row) (hb : Below B w w') : Sl w' B k A n row := h.keep fun _ hp => hb.cell hp
theorem Sl.drewN (h : Sl w B k A n row) (q : Nat) : Sl (w.drewN q) B k A n row := h
theorem Sl.drew (h : Sl w B k A n row) : Sl w.drew B k A n row := h
theorem Sl.less {m : Nat} (h : Sl w B k A n row) (hm : m ≤ n) : Sl w B k A m row := fun h0 => by
  obtain ⟨b, off, e, hb, hr⟩ := h (by omega)
  exact ⟨b, off, e, hb, fun i hi => hr i (by omega)⟩
theorem Sl.congr {row' : Nat → List Value} (h : Sl w B k A n row) (he : ∀ i, i < n → row i = row' i) : Sl w B k A n row' := fun h0 => by
  obtain ⟨b, off, e, hb, hr⟩ := h h0
  exact ⟨b, off, e, hb, fun i hi => by rw [← he i hi]; exact hr i hi⟩
/-- Rows of one cell. -/
theorem Sl.one {f : Nat → Value} (h : Sl w B 1 A n (fun i => [f i])) (hn : 0 < n) : ∃ b off, A = some ⟨b, off, none⟩ ∧ b < B ∧ ∀ i, i < n → w.cell? ⟨b, off + i, none⟩ = some (f i) := by
  obtain ⟨b, off, e, hb, hr⟩ := h hn
  refine ⟨b, off, e, hb, fun i hi => ?_⟩
  have := hr i hi 0 (f i) rfl
  rwa [Nat.mul_one, Nat.add_zero] at this
/-- What a call makes itself. -/
theorem Sl.of_own {base : Nat} {e : TypeId} {c : Nat} {xs : List Value} (h : w.ownsRow base e k (.slice A n c) n xs) (hB : w.heap.size ≤ B)
    (hrow : ∀ i, i < n → ∀ j v, (row i)[j]? = some v → xs[i * k + j]? = some v) : Sl w B k A n row := fun hn => by
  obtain ⟨g, cap, hv, _, hlt⟩ := h.form hn
  have hA : A = some ⟨g, 0, none⟩ := by injection hv
  subst hA
  refine ⟨g, 0, rfl, by omega, fun i hi j v hj => ?_⟩
  have := h.cells (g := g) rfl (i * k + j) v (hrow i hi j v hj)
  rw [Addr.add_mid] at this
  rw [Nat.add_assoc]; exact this
end

def intsV (l : List Int) : List Value := l.map (Value.int .i64)

theorem intsV_snoc (l : List Int) (x : Int) : intsV l ++ [.int .i64 x] = intsV (l ++ [x]) := by simp [intsV]
theorem range_snoc {α : Type} (f : Nat → α) (k : Nat) : (List.range k).map f ++ [f k] = (List.range (k + 1)).map f := by simp [List.range_succ]

/-- A list of ints that the call made itself, as a slice that reads. -/
theorem Sl_ints {w : World} {base n c : Nat} {e : TypeId} {A : Option Addr} {f : Nat → Int} (h : w.ownsRow base e 1 (.slice A n c) n (intsV ((List.range n).map f))) :
    Sl w w.heap.size 1 A n (fun i => [.int .i64 (f i)]) :=
  Sl.of_own h (Nat.le_refl _) fun i hi j v hj => by
    have : j = 0 := by
      rcases Nat.eq_zero_or_pos j with h0 | h0
      · exact h0
      · rw [List.getElem?_eq_none (by simp; omega)] at hj; cases hj
    subst this
    simp only [List.getElem?_cons_zero, Option.some.injEq] at hj
    subst hj
    simp [intsV, hi]

/-- Two values own no block in common. -/
def ApartV (a b : Value) : Prop := a.ownBlock = none ∨ b.ownBlock = none ∨ a.ownBlock ≠ b.ownBlock

section
variable {w w' : World} {base n size : Nat} {e : TypeId} {v : Value} {xs : List Value}

theorem own_shape (h : w.ownsRow base e size v n xs) : ∃ A c, v = .slice A n c := by
  rcases h.2 with ⟨rfl, rfl⟩ | ⟨g, cap, cur, rfl, _⟩
  · exact ⟨_, _, rfl⟩
  · exact ⟨_, _, rfl⟩
theorem own_mono {base' : Nat} (h : w.ownsRow base e size v n xs) (hb : base' ≤ base) : w.ownsRow base' e size v n xs := by
  refine ⟨h.1, ?_⟩
  rcases h.2 with hn | ⟨g, cap, cur, rfl, hb', rest⟩
  · exact .inl hn
  · exact .inr ⟨g, cap, cur, rfl, Nat.le_trans hb hb', rest⟩
theorem own_below {B : Nat} (h : w.ownsRow base e size v n xs) (hb : Below B w w') (hB : w.heap.size ≤ B) : w'.ownsRow base e size v n xs := by
  refine ⟨h.1, ?_⟩
  rcases h.2 with hn | ⟨g, cap, cur, rfl, hb', hgg, rest⟩
  · exact .inl hn
  · refine .inr ⟨g, cap, cur, rfl, hb', ?_, rest⟩
    rw [hb.block g (Nat.lt_of_lt_of_le (Array.getElem?_eq_some_iff.1 hgg).1 hB)]
    exact hgg
theorem own_apart {x : Value} {row : Option Nat} (h : w.ownsRow base e size v n xs) (hg : w.grownBy w' row) (hr : row = x.ownBlock) (hx : ApartV x v) : w'.ownsRow base e size v n xs := by
  subst hr
  refine h.kept hg ?_
  rcases hx with hx | hx | hx
  · rw [hx]; cases hv : v.ownBlock <;> simp
  · exact .inl hx
  · exact .inr (Ne.symm hx)
theorem ApartV.symm {a b : Value} (h : ApartV a b) : ApartV b a := by
  rcases h with h | h | h
  · exact .inr (.inl h)
  · exact .inl h
  · exact .inr (.inr (Ne.symm h))
theorem apart_nil {b : Value} : ApartV (.slice none 0 0) b := .inl rfl
/-- Behind an append to a: what it then owns is still apart from b. -/
theorem apart_grown {a b : Value} {g n' cap' : Nat} (h : ApartV a b) (ho : w.ownsRow base e size b n xs) (hat : a.ownBlock = some g ∨ g = w.heap.size) : ApartV (.slice (some ⟨g, 0, none⟩) n' cap') b := by
  cases hb : b.ownBlock with
  | none => exact .inr (.inl hb)
  | some k =>
    right; right
    rw [hb]
    intro hk
    have hk : g = k := by simpa [Value.ownBlock] using hk
    subst hk
    rcases hat with hat | hat
    · rcases h with h | h | h
      · rw [h] at hat; cases hat
      · rw [h] at hb; cases hb
      · exact h (hat.trans hb.symm)
    · have := (ho.lt g hb).2
      omega
end

/-- An element of an array that is a value: a row of it. -/
theorem run_index_row {P : Program} {t e : TypeId} {n : Nat} {i : TypeInfo} {d : TypeDesc} (ht : P.underlying t = some (.array n e)) (he : P.underlying e = some d) (hd : d.isRow = true) (hi : P.info? e = some i)
    (cs : Array Value) (kd : IntKind) (k : Nat) (hk : k < n) (w : World) :
    (Instr.index t (.agg cs) (.int kd (k : Int))).run P w = .ok (.agg (cs.extract (k * i.size) (k * i.size + i.size))) w := by
  have hagg : (isAgg e).run P w = .ok true w := by
    unfold isAgg
    rw [Sem.run_bind, run_underlying he w]
    cases d <;> simp_all
  have h1 : (0 : Int) ≤ (k : Int) ∧ (k : Int) < (n : Int) := by omega
  simp [Instr.index, asIntOf, run_underlying ht, h1, sizeOf, typeInfo, hi, part, hagg]
  intro h; omega

/-- An element of an array that is a value: one cell. -/
theorem run_index_cell {P : Program} {t e : TypeId} {n : Nat} {i : TypeInfo} {d : TypeDesc} (ht : P.underlying t = some (.array n e)) (he : P.underlying e = some d) (hd : d.isRow = false) (hi : P.info? e = some i) (hs : i.size = 1)
    (cs : Array Value) (kd : IntKind) (k : Nat) (hk : k < n) (v : Value) (hv : cs[k]? = some v) (w : World) :
    (Instr.index t (.agg cs) (.int kd (k : Int))).run P w = .ok v w := by
  have hagg : (isAgg e).run P w = .ok false w := by
    unfold isAgg
    rw [Sem.run_bind, run_underlying he w]
    cases d <;> simp_all
  have h1 : (0 : Int) ≤ (k : Int) ∧ (k : Int) < (n : Int) := by omega
  simp [Instr.index, asIntOf, run_underlying ht, h1, sizeOf, typeInfo, hi, part, hagg, hs, hv]
  intro h; omega

theorem bcell {W w1 : World} (hb : Below W.heap.size W w1) : (∀ b o, b < W.heap.size → w1.cell? ⟨b, o, none⟩ = W.cell? ⟨b, o, none⟩) ∧ (∀ b o, b < W.heap.size → w1.frozen? ⟨b, o, none⟩ = W.frozen? ⟨b, o, none⟩) :=
  ⟨fun b o h => hb.cell (p := ⟨b, o, none⟩) h, fun b o h => hb.frozen (p := ⟨b, o, none⟩) h⟩

theorem below_drewN {B : Nat} {a w : World} (h : Below B a w) (n : Nat) : Below B a (w.drewN n) := ⟨h.os, h.tape, h.output, h.size, h.block⟩

end Go.Proofs.YtdlifdmnfbjokaaDoor
