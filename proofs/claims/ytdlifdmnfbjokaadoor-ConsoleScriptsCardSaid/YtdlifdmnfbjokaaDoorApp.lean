/- 'append(xs, x)' of one element onto a row of the call's own, where the walk has just laid x in a block. -/
import Derived.Test.YtdlifdmnfbjokaaDoorMem
namespace Go.Proofs.YtdlifdmnfbjokaaDoor
open Go.RowKit

section
variable {P : Program}

theorem news_one (W : World) (cs : Array Value) (e : TypeId) : ∀ (j : Nat) (u : Value), cs.toList[j]? = some u → (W.alloc (.cells cs e)).cell? ((⟨W.heap.size, 0, none⟩ : Addr).add j) = some u := by
  intro j u hu
  rw [Addr.add_mid, Nat.zero_add, cell_of_row _ _ _ _ _ _ (heap_alloc_new W _)]
  simpa using hu

theorem wpList_append_one {ops : Array Oper} {rest : List Oper} {o : Oper} {a : Act} {Q : Exit → Act → World → Prop} (W : World) (cs : Array Value) (hgd : o.guard = none) (s x : Operand) (t : TypeId)
    (ho : o.op = .call { callee := .builtin .append, args := #[s, x], argTypes := #[t, t] })
    (base : Nat) (e : TypeId) (i : TypeInfo) (z : Value) (size bytes : Nat) (ht : P.underlying t = some (.slice e)) (hi : P.info? e = some i) (hz : i.zero = some z)
    (hsize : i.size = size) (hby : i.bytes = bytes) (hzs : z.cells.size = size) (hsz : 0 < size)
    (v : Value) (n : Nat) (xs : List Value) (hs : a.eval s = v) (hown : W.ownsRow base e size v n xs)
    (hcs : cs.size = size) (hx : a.eval x = .slice (some ⟨W.heap.size, 0, none⟩) 1 1) (h1 : cs.all (·.oneCell') = true)
    (hn : n + 1 ≤ 100000000) (hbytes : bytes ≤ 1000) (hbase : base ≤ W.heap.size)
    (h : ∀ g cap w', w'.ownsRow base e size (.slice (some ⟨g, 0, none⟩) (n + 1) cap) (n + 1) (xs ++ cs.toList) → (W.alloc (.cells cs e)).grownBy w' v.ownBlock → (v.ownBlock = some g ∨ g = W.heap.size + 1) → g < w'.heap.size →
      wpList P ops Q rest (a.put o.dst (.slice (some ⟨g, 0, none⟩) (n + 1) cap)) w') : wpList P ops Q (o :: rest) a (W.alloc (.cells cs e)) :=
  wpList_append_lies _ hgd s x t ho base e i z size bytes ht hi hz hsize hby hzs hsz v n xs hs (hown.alloc _) ⟨W.heap.size, 0, none⟩ 1 1 cs.toList hx (by simp [hcs]) (news_one W cs e)
    (fun u hu => (Array.all_eq_true_iff_forall_mem.1 h1) u (by simpa using hu)) (by omega) (by simp only [maxLen]; omega)
    (Nat.le_trans (Nat.mul_le_mul hn hbytes) (by decide)) (by simp; omega) (W.heap.size + 1) (by simp) h

/-- An int. -/
theorem wpList_append_int {ops : Array Oper} {rest : List Oper} {o : Oper} {a : Act} {Q : Exit → Act → World → Prop} (W : World) (q : Int) (hgd : o.guard = none) (s x : Operand) (t : TypeId)
    (ho : o.op = .call { callee := .builtin .append, args := #[s, x], argTypes := #[t, t] })
    (base : Nat) (e : TypeId) (i : TypeInfo) (ht : P.underlying t = some (.slice e)) (hi : P.info? e = some i) (hz : i.zero = some (.int .i64 0)) (hsize : i.size = 1) (hby : i.bytes = 8)
    (v : Value) (n : Nat) (l : List Int) (hs : a.eval s = v) (hown : W.ownsRow base e 1 v n (intsV l))
    (hx : a.eval x = .slice (some ⟨W.heap.size, 0, none⟩) 1 1) (hn : n + 1 ≤ 100000000) (hbase : base ≤ W.heap.size)
    (h : ∀ g cap w', w'.ownsRow base e 1 (.slice (some ⟨g, 0, none⟩) (n + 1) cap) (n + 1) (intsV (l ++ [q])) → (W.alloc (.cells #[.int .i64 q] e)).grownBy w' v.ownBlock → (v.ownBlock = some g ∨ g = W.heap.size + 1) → g < w'.heap.size →
      wpList P ops Q rest (a.put o.dst (.slice (some ⟨g, 0, none⟩) (n + 1) cap)) w') : wpList P ops Q (o :: rest) a (W.alloc (.cells #[.int .i64 q] e)) :=
  wpList_append_one W #[.int .i64 q] hgd s x t ho base e i _ 1 8 ht hi hz hsize hby rfl (by omega) v n (intsV l) hs hown rfl hx (by simp [Value.oneCell']) hn (by omega) hbase
    (fun g cap w' h1 => h g cap w' (by rw [← intsV_snoc]; exact h1))

/-- An int, at a step of a region that draws its order; the block that holds it may lie anywhere. -/
theorem step_append_int {ops : Array Oper} {o : Oper} {a : Act} {K : Act → World → Prop} {Q : Exit → Act → World → Prop} {E : Prop} (W : World) (q : Int) (N : Nat) (hgd : o.guard = none) (s x : Operand) (t : TypeId)
    (ho : o.op = .call { callee := .builtin .append, args := #[s, x], argTypes := #[t, t] })
    (base : Nat) (e : TypeId) (i : TypeInfo) (ht : P.underlying t = some (.slice e)) (hi : P.info? e = some i) (hz : i.zero = some (.int .i64 0)) (hsize : i.size = 1) (hby : i.bytes = 8)
    (v : Value) (n : Nat) (l : List Int) (hs : a.eval s = v) (hown : W.ownsRow base e 1 v n (intsV l)) (hN : W.heap[N]? = some (.cells #[.int .i64 q] e (0, 0)))
    (hx : a.eval x = .slice (some ⟨N, 0, none⟩) 1 1) (hn : n + 1 ≤ 100000000) (hbase : base ≤ W.heap.size)
    (h : ∀ g cap w', w'.ownsRow base e 1 (.slice (some ⟨g, 0, none⟩) (n + 1) cap) (n + 1) (intsV (l ++ [q])) → W.grownBy w' v.ownBlock → (v.ownBlock = some g ∨ g = W.heap.size) → g < w'.heap.size →
      K (a.put o.dst (.slice (some ⟨g, 0, none⟩) (n + 1) cap)) w') : if Region.wanted o (yielded ops a.tmps) = true then Oper.wp P o a W K Q else E :=
  step_append_lies W hgd s x t ho base e i _ 1 8 ht hi hz hsize hby rfl (by omega) v n (intsV l) hs hown ⟨N, 0, none⟩ 1 1 [.int .i64 q] hx rfl (fun j u hu => by
      have : j = 0 := by
        rcases Nat.eq_zero_or_pos j with h0 | h0
        · exact h0
        · rw [List.getElem?_eq_none (by simp; omega)] at hu; cases hu
      subst this
      rw [Addr.add_mid, cell_of_row _ _ _ _ _ _ hN]
      simpa using hu) (by simp [Value.oneCell']) (by omega) (by simp only [maxLen]; omega)
    (by omega) hbase W.heap.size rfl (fun g cap w' h1 => h g cap w' (by rw [← intsV_snoc]; exact h1))

end

/-- Behind such an append: nothing below B has turned, if the row lies at B or above. -/
theorem below_app {B base : Nat} {a W w' : World} {o : Obj} {e : TypeId} {size n : Nat} {v : Value} {xs : List Value} (h : Below B a W) (hB : B ≤ W.heap.size) (hown : W.ownsRow base e size v n xs) (hb : B ≤ base)
    (hg : (W.alloc o).grownBy w' v.ownBlock) : Below B a w' :=
  (h.alloc hB o).grown hg (by simp; omega) (fun k hk => by have := (hown.lt k hk).1; omega)

/-- Another row, apart from the one that was appended to. -/
theorem own_app {base base' : Nat} {W w' : World} {o : Obj} {e e' : TypeId} {size size' n n' : Nat} {v v' : Value} {xs xs' : List Value} (_hown : W.ownsRow base e size v n xs)
    (hown' : W.ownsRow base' e' size' v' n' xs') (hap : ApartV v v') (hg : (W.alloc o).grownBy w' v.ownBlock) : w'.ownsRow base' e' size' v' n' xs' :=
  own_apart (hown'.alloc o) hg rfl hap

/-- What was appended to is apart from it still. -/
theorem apart_app {base' : Nat} {W : World} {e' : TypeId} {size' n' m cap g : Nat} {v v' : Value} {xs' : List Value} (hap : ApartV v v') (hown' : W.ownsRow base' e' size' v' n' xs') (hat : v.ownBlock = some g ∨ g = W.heap.size + 1) :
    ApartV (.slice (some ⟨g, 0, none⟩) m cap) v' := by
  cases hb : v'.ownBlock with
  | none => exact .inr (.inl hb)
  | some k =>
    right; right
    rw [hb]
    intro hk
    have hk : g = k := by simpa [Value.ownBlock] using hk
    subst hk
    rcases hat with hat | hat
    · rcases hap with h | h | h
      · rw [h] at hat; cases hat
      · rw [h] at hb; cases hb
      · exact h (hat.trans hb.symm)
    · have := (hown'.lt g hb).2
      omega

/-- A row that lay before another was made is apart from it. -/
theorem apart_base {W W' : World} {base base' : Nat} {e e' : TypeId} {size size' n n' : Nat} {v v' : Value} {xs xs' : List Value} (h : W.ownsRow base e size v n xs) (h' : W'.ownsRow base' e' size' v' n' xs') (hlt : W.heap.size ≤ base') : ApartV v v' := by
  cases hv : v.ownBlock with
  | none => exact .inl hv
  | some g =>
    cases hv' : v'.ownBlock with
    | none => exact .inr (.inl hv')
    | some g' =>
      refine .inr (.inr ?_)
      rw [hv, hv']
      intro e
      injection e with e
      have := (h.lt g hv).2
      have := (h'.lt g' hv').1
      omega

/-- One int of a row of ints is written. -/
theorem intsV_set {f : Nat → Int} {n k : Nat} (u : Int) : (intsV ((List.range n).map f)).set k (.int .i64 u) = intsV ((List.range n).map fun i => if i = k then u else f i) := by
  apply List.ext_getElem?
  intro i
  unfold intsV
  rw [List.getElem?_set]
  by_cases hi : i < n
  · by_cases e : k = i
    · subst e; simp [hi]
    · rw [if_neg e]
      have e' : i ≠ k := fun h => e h.symm
      simp [hi, e']
  · rw [List.getElem?_eq_none (l := List.map _ (List.map _ _)) (by simp; omega)]
    split
    · rw [if_neg (by simp; omega)]; rw [List.getElem?_eq_none (by simp; omega)]
    · rw [List.getElem?_eq_none (by simp; omega)]

theorem intsV_get {f : Nat → Int} {n k : Nat} (hk : k < n) : (intsV ((List.range n).map f))[k]? = some (.int .i64 (f k)) := by simp [intsV, hk]

/-- A block that is known whole, apart from the row that was appended to. -/
theorem heap_app {base b : Nat} {W w' : World} {o x : Obj} {e : TypeId} {size n : Nat} {v : Value} {xs : List Value} (hown : W.ownsRow base e size v n xs) (hb : b < base) (hlt : b < W.heap.size) (h : W.heap[b]? = some x)
    (hg : (W.alloc o).grownBy w' v.ownBlock) : w'.heap[b]? = some x := by
  rw [hg.block b (by simp; omega) (fun e => by have := (hown.lt b e.symm).1; omega)]
  exact (Below.heap_alloc W o b hlt).trans h

end Go.Proofs.YtdlifdmnfbjokaaDoor
