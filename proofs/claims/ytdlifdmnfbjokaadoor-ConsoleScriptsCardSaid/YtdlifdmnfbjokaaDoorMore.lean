/- Small words that most walks want. -/
import Derived.Test.YtdlifdmnfbjokaaDoorApp
import Derived.Test.YtdlifdmnfbjokaaDoorRow
namespace Go.Proofs.YtdlifdmnfbjokaaDoor
open Go.RowKit

theorem grown_setCell (w : World) (g i : Nat) (v : Value) : w.grownBy (w.setCell ⟨g, i, none⟩ v) (some g) := by
  have h := (Below.refl g w).setCell (p := ⟨g, i, none⟩) (Nat.le_refl _) v
  exact ⟨h.os, h.tape, h.output, h.size, fun k _ hk => heap_setCell_other _ _ _ _ (fun e => hk (by rw [e]))⟩
theorem own_ne {w : World} {base n size g : Nat} {e : TypeId} {v : Value} {xs : List Value} (h : w.ownsRow base e size v n xs) (hg : g < base) : v.ownBlock = none ∨ v.ownBlock ≠ some g :=
  .inr fun x => by have := (h.lt g x).1; omega
theorem own_cap {w : World} {base n k c : Nat} {e : TypeId} {A : Option Addr} {xs : List Value} (h : w.ownsRow base e k (.slice A n c) n xs) : n ≤ c ∧ c ≤ maxLen := by
  rcases h.2 with ⟨h1, h2⟩ | ⟨g, cap, cur, h1, _, _, h3, h4, _⟩
  · cases h1; exact ⟨Nat.le_refl _, by decide⟩
  · cases h1; exact ⟨h3, h4⟩
theorem own_nil {w : World} {base n k c : Nat} {e : TypeId} {A : Option Addr} {xs : List Value} (h : w.ownsRow base e k (.slice A n c) n xs) : A = none → n = 0 ∧ c = 0 := fun hA => by
  subst hA
  rcases h.2 with ⟨h1, h2⟩ | ⟨g, cap, cur, h1, _⟩
  · cases h1; exact ⟨rfl, rfl⟩
  · cases h1
theorem bstep {a b c : World} (h : Below a.heap.size a b) (h' : Below b.heap.size b c) : Below a.heap.size a c := h.trans (h'.mono h.size)
/-- The same with a number of its own. -/
theorem bstepB {B : Nat} {a b c : World} (hB : B ≤ a.heap.size) (h : Below B a b) (h' : Below b.heap.size b c) : Below B a c := h.trans (h'.mono (Nat.le_trans hB h.size))
theorem hid_step {P : Nat → Prop} {j : Nat} (h : Hid (∀ i, i < j → P i)) (hj : P j) : Hid (∀ i, i < j + 1 → P i) :=
  Lib.hid fun i hi => by
    by_cases e : i = j
    · subst e; exact hj
    · exact h.out i (by omega)

/-- A block of numbers. -/
def Tab (C : Array Value) (n : Nat) (f : Nat → Int) : Prop := C.size = n ∧ ∀ s, s < n → C[s]? = some (.int .i64 (f s))
theorem Tab.set {C : Array Value} {n : Nat} {f : Nat → Int} (h : Tab C n f) (i : Nat) (x : Int) (hi : i < n) : Tab (C.setIfInBounds i (.int .i64 x)) n (fun s => if s = i then x else f s) := by
  refine ⟨by simp [h.1], fun s hs => ?_⟩
  by_cases e : s = i
  · subst e
    rw [Array.getElem?_setIfInBounds_self_of_lt (by rw [h.1]; exact hs)]; simp
  · rw [Array.getElem?_setIfInBounds_ne (fun x => e x.symm)]; simp [e, h.2 s hs]
theorem Tab.congr {C : Array Value} {n : Nat} {f g : Nat → Int} (h : Tab C n f) (e : ∀ s, s < n → f s = g s) : Tab C n g := ⟨h.1, fun s hs => by rw [← e s hs]; exact h.2 s hs⟩

section
variable {P : Program}
theorem wpList_append_intN {ops : Array Oper} {rest : List Oper} {o : Oper} {a : Act} {Q : Exit → Act → World → Prop} (W : World) (N : Nat) (hN : N = W.heap.size) (q : Int) (hgd : o.guard = none) (s x : Operand) (t : TypeId)
    (ho : o.op = .call { callee := .builtin .append, args := #[s, x], argTypes := #[t, t] })
    (base : Nat) (e : TypeId) (i : TypeInfo) (ht : P.underlying t = some (.slice e)) (hi : P.info? e = some i) (hz : i.zero = some (.int .i64 0)) (hsize : i.size = 1) (hby : i.bytes = 8)
    (v : Value) (n : Nat) (l : List Int) (hs : a.eval s = v) (hown : W.ownsRow base e 1 v n (intsV l))
    (hx : a.eval x = .slice (some ⟨N, 0, none⟩) 1 1) (hn : n + 1 ≤ 100000000) (hbase : base ≤ W.heap.size)
    (h : ∀ g cap w', w'.ownsRow base e 1 (.slice (some ⟨g, 0, none⟩) (n + 1) cap) (n + 1) (intsV (l ++ [q])) → (W.alloc (.cells #[.int .i64 q] e)).grownBy w' v.ownBlock → (v.ownBlock = some g ∨ g = W.heap.size + 1) → g < w'.heap.size →
      wpList P ops Q rest (a.put o.dst (.slice (some ⟨g, 0, none⟩) (n + 1) cap)) w') : wpList P ops Q (o :: rest) a (W.alloc (.cells #[.int .i64 q] e)) := by
  subst hN
  exact wpList_append_int W q hgd s x t ho base e i ht hi hz hsize hby v n l hs hown hx hn hbase h

theorem wpList_append_oneN {ops : Array Oper} {rest : List Oper} {o : Oper} {a : Act} {Q : Exit → Act → World → Prop} (W : World) (N : Nat) (hN : N = W.heap.size) (cs : Array Value) (hgd : o.guard = none) (s x : Operand) (t : TypeId)
    (ho : o.op = .call { callee := .builtin .append, args := #[s, x], argTypes := #[t, t] })
    (base : Nat) (e : TypeId) (i : TypeInfo) (z : Value) (size bytes : Nat) (ht : P.underlying t = some (.slice e)) (hi : P.info? e = some i) (hz : i.zero = some z)
    (hsize : i.size = size) (hby : i.bytes = bytes) (hzs : z.cells.size = size) (hsz : 0 < size)
    (v : Value) (n : Nat) (xs : List Value) (hs : a.eval s = v) (hown : W.ownsRow base e size v n xs)
    (hcs : cs.size = size) (hx : a.eval x = .slice (some ⟨N, 0, none⟩) 1 1) (h1 : cs.all (·.oneCell') = true)
    (hn : n + 1 ≤ 100000000) (hbytes : bytes ≤ 1000) (hbase : base ≤ W.heap.size)
    (h : ∀ g cap w', w'.ownsRow base e size (.slice (some ⟨g, 0, none⟩) (n + 1) cap) (n + 1) (xs ++ cs.toList) → (W.alloc (.cells cs e)).grownBy w' v.ownBlock → (v.ownBlock = some g ∨ g = W.heap.size + 1) → g < w'.heap.size →
      wpList P ops Q rest (a.put o.dst (.slice (some ⟨g, 0, none⟩) (n + 1) cap)) w') : wpList P ops Q (o :: rest) a (W.alloc (.cells cs e)) := by
  subst hN
  exact wpList_append_one W cs hgd s x t ho base e i z size bytes ht hi hz hsize hby hzs hsz v n xs hs hown hcs hx h1 hn hbytes hbase h
end
end Go.Proofs.YtdlifdmnfbjokaaDoor
