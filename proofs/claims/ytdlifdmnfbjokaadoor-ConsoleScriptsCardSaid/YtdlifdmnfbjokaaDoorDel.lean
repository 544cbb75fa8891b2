/- Cells of a row of the call's own are written in place: append within its own room, clear. -/
import Derived.Test.YtdlifdmnfbjokaaDoorApp
import Derived.Test.YtdlifdmnfbjokaaDoorDr
import Derived.Deep.AppendSrc
namespace Go.Proofs.YtdlifdmnfbjokaaDoor
open Go.RowKit

/-- The cells of a block behind a run of stores. -/
def wr (cur : Array Value) : Nat → List Value → Array Value
  | _, [] => cur
  | o, v :: vs => wr (cur.setIfInBounds o v) (o + 1) vs

theorem wr_size : ∀ (vs : List Value) (cur : Array Value) (o : Nat), (wr cur o vs).size = cur.size
  | [], _, _ => rfl
  | v :: vs, cur, o => by rw [wr, wr_size vs]; simp

theorem wr_get : ∀ (vs : List Value) (cur : Array Value) (o p : Nat), o + vs.length ≤ cur.size → (wr cur o vs)[p]? = if o ≤ p ∧ p < o + vs.length then vs[p - o]? else cur[p]?
  | [], cur, o, p, _ => by rw [wr, if_neg (fun h => by simp at h; omega)]
  | v :: vs, cur, o, p, h => by
    simp only [List.length_cons] at h
    rw [wr, wr_get vs _ _ _ (by simp; omega)]
    by_cases h1 : o + 1 ≤ p ∧ p < o + 1 + vs.length
    · rw [if_pos h1, if_pos (by simp; omega)]
      rw [show p - o = (p - (o + 1)) + 1 by omega, List.getElem?_cons_succ]
    · rw [if_neg h1]
      by_cases h2 : p = o
      · subst h2
        have hp : p < cur.size := by omega
        rw [if_pos (by simp)]
        simp [hp]
      · rw [if_neg (by simp; omega), Array.getElem?_setIfInBounds_ne (by omega)]

theorem setCells_heap {b : Nat} {e : TypeId} : ∀ (vs : List Value) (cur : Array Value) (o : Nat) (w : World), w.heap[b]? = some (.cells cur e (0, 0)) → (w.setCells b o vs).heap[b]? = some (.cells (wr cur o vs) e (0, 0))
  | [], _, _, _, h => h
  | v :: vs, cur, o, w, h => by
    rw [World.setCells, wr]
    exact setCells_heap vs _ _ _ (heap_setCell_same w b o cur e v h)

theorem setCells_grown (b : Nat) : ∀ (vs : List Value) (o : Nat) (w : World), w.grownBy (w.setCells b o vs) (some b)
  | [], _, w => World.grownBy.refl w _
  | v :: vs, o, w => by
    have h1 : w.grownBy (w.setCell ⟨b, o, none⟩ v) (some b) := ⟨rfl, rfl, rfl, by simp [World.setCell], fun k _ hk => heap_setCell_other w ⟨b, o, none⟩ k v (fun e => hk (by rw [e]))⟩
    have h2 := setCells_grown b vs (o + 1) (w.setCell ⟨b, o, none⟩ v)
    exact ⟨h2.os.trans h1.os, h2.tape.trans h1.tape, h2.output.trans h1.output, Nat.le_trans h1.size h2.size, fun k hk hne => (h2.block k (Nat.lt_of_lt_of_le hk h1.size) hne).trans (h1.block k hk hne)⟩

theorem grown_trans {a b c : World} {row : Option Nat} (h1 : a.grownBy b row) (h2 : b.grownBy c row) : a.grownBy c row :=
  ⟨h2.os.trans h1.os, h2.tape.trans h1.tape, h2.output.trans h1.output, Nat.le_trans h1.size h2.size, fun k hk hne => (h2.block k (Nat.lt_of_lt_of_le hk h1.size) hne).trans (h1.block k hk hne)⟩
theorem grown_drewN {a b : World} {row : Option Nat} (h1 : a.grownBy b row) (q : Nat) : a.grownBy (b.drewN q) row := ⟨h1.os, h1.tape, h1.output, h1.size, h1.block⟩
theorem grown_drew {a b : World} {row : Option Nat} (h1 : a.grownBy b row) : a.grownBy b.drew row := ⟨h1.os, h1.tape, h1.output, h1.size, h1.block⟩

section
variable {w : World} {base k g n cap : Nat} {e : TypeId} {xs : List Value}

/-- What an owned row says of its block. -/
theorem own_cur (h : w.ownsRow base e k (.slice (some ⟨g, 0, none⟩) n cap) n xs) : ∃ cur, w.heap[g]? = some (.cells cur e (0, 0)) ∧ base ≤ g ∧ n ≤ cap ∧ cap ≤ maxLen ∧ cur.size = cap * k ∧ cur.toList.take (n * k) = xs := by
  rcases h.2 with ⟨h', _⟩ | ⟨g', cap', cur, h', hb, hg, hnc, hcm, hcs, htake⟩
  · simp at h'
  · simp only [Value.slice.injEq, Option.some.injEq, Addr.mk.injEq, and_true, true_and] at h'
    obtain ⟨rfl, rfl⟩ := h'
    exact ⟨cur, hg, hb, hnc, hcm, hcs, htake⟩

/-- A run of cells of an owned row is written; what the row then holds is read off it. -/
theorem own_write (h : w.ownsRow base e k (.slice (some ⟨g, 0, none⟩) n cap) n xs) (o : Nat) (vs : List Value) (ho : o + vs.length ≤ cap * k) (n' : Nat) (hn' : n' ≤ cap) (ys : List Value) (hy : ys.length = n' * k)
    (hys : ∀ p, p < n' * k → ys[p]? = if o ≤ p ∧ p < o + vs.length then vs[p - o]? else xs[p]?) (hlow : ∀ p, p < n' * k → ¬ (o ≤ p ∧ p < o + vs.length) → p < n * k) :
    (w.setCells g o vs).ownsRow base e k (.slice (some ⟨g, 0, none⟩) n' cap) n' ys := by
  obtain ⟨cur, hg, hb, hnc, hcm, hcs, htake⟩ := own_cur h
  refine ⟨hy, .inr ⟨g, cap, wr cur o vs, rfl, hb, setCells_heap vs cur o w hg, hn', hcm, by rw [wr_size, hcs], ?_⟩⟩
  have hle : n' * k ≤ cap * k := Nat.mul_le_mul_right k hn'
  apply List.ext_getElem?
  intro p
  rw [List.getElem?_take]
  by_cases hp : p < n' * k
  · rw [if_pos hp, hys p hp, Array.getElem?_toList, wr_get vs cur o p (by omega)]
    split
    · rfl
    · rename_i hno
      rw [← htake, List.getElem?_take, if_pos (hlow p hp hno), Array.getElem?_toList]
  · rw [if_neg hp, List.getElem?_eq_none (by omega)]

theorem own_some (h : w.ownsRow base e k (.slice (some ⟨g, 0, none⟩) n cap) n xs) (p : Nat) (hp : p < cap * k) : (w.cell? ⟨g, p, none⟩).isSome = true ∧ w.frozen? ⟨g, p, none⟩ = false := by
  obtain ⟨cur, hg, _, _, _, hcs, _⟩ := own_cur h
  refine ⟨?_, frozen_of_row w g p cur e hg⟩
  rw [cell_of_row w g p cur e (0, 0) hg, Array.getElem?_eq_getElem (by omega)]
  rfl

theorem own_drewN (h : w.ownsRow base e k (.slice (some ⟨g, 0, none⟩) n cap) n xs) (q : Nat) : (w.drewN q).ownsRow base e k (.slice (some ⟨g, 0, none⟩) n cap) n xs := h

/-- 'append(s[:i], s[j:]...)' on an owned row. -/
theorem wp_append_splice {P : Program} {o : Oper} {a : Act} {K : Act → World → Prop} {Q : Exit → Act → World → Prop} (s x : Operand) (t : TypeId)
    (ho : o.op = .call { callee := .builtin .append, args := #[s, x], argTypes := #[t, t] }) (i0 : TypeInfo) (ht : P.underlying t = some (.slice e)) (hi : P.info? e = some i0) (hsize : i0.size = k)
    (h : w.ownsRow base e k (.slice (some ⟨g, 0, none⟩) n cap) n xs) (h1 : ∀ u ∈ xs, u.oneCell' = true) (i j m c' : Nat) (hij : i ≤ j) (hjm : j + m = n) (ad : Addr) (had : 0 < m → ad = ⟨g, j * k, none⟩)
    (hs : a.eval s = .slice (some ⟨g, 0, none⟩) i cap) (hx : a.eval x = .slice (some ad) m c')
    (hK : ∀ w', w'.ownsRow base e k (.slice (some ⟨g, 0, none⟩) (i + m) cap) (i + m) (xs.take (i * k) ++ xs.drop (j * k)) → w.grownBy w' (some g) → K (a.put o.dst (.slice (some ⟨g, 0, none⟩) (i + m) cap)) w') : o.wp P a w K Q := by
  obtain ⟨cur, hg, hb, hnc, hcm, hcs, htake⟩ := own_cur h
  have hxl : xs.length = n * k := h.1
  have hnk : n * k ≤ cap * k := Nat.mul_le_mul_right k hnc
  have hjk : j * k + m * k = n * k := by rw [← Nat.add_mul, hjm]
  have hik : i * k ≤ j * k := Nat.mul_le_mul_right k hij
  have hlen : (xs.drop (j * k)).length = m * k := by rw [List.length_drop, hxl]; omega
  have hnews : ∀ q u, (xs.drop (j * k))[q]? = some u → w.cell? (ad.add q) = some u := by
    intro q u hu
    have hq : q < m * k := by
      rw [← hlen]
      exact (List.getElem?_eq_some_iff.1 hu).1
    have hm : 0 < m := by
      rcases Nat.eq_zero_or_pos m with h0 | h0
      · subst h0; simp at hq
      · exact h0
    rw [had hm, Addr.add_mid, cell_of_row w g _ cur e (0, 0) hg, ← Array.getElem?_toList]
    rw [List.getElem?_drop, ← htake, List.getElem?_take, if_pos (by omega)] at hu
    exact hu
  have hsrc : Src P i0.size t (.slice (some ad) m c') m (xs.drop (j * k)) w := Src.ofSlice w ht ad m c' _ (by rw [hsize]; exact hlen) hnews (fun u hu => h1 u (List.mem_of_mem_drop hu))
  have hrun := run_append_room_src (P := P) w t t o.type e i0 ht hi g 0 i cap (.slice (some ad) m c') m (xs.drop (j * k)) hsrc (by omega)
    (fun q hq => by rw [hsize, Nat.zero_add]; exact (own_some h _ (by omega)).1) (fun q hq => by rw [hsize, Nat.zero_add]; exact (own_some h (i * k + q) (by omega)).2)
  rw [hsize, Nat.zero_add] at hrun
  unfold Oper.wp execOp
  simp only [ho, resolve, invoke, builtin, Sem.run_bind, Sem.run_pure, Result.andThen_ok, List.map_toArray, List.map_cons, List.map_nil, hs, hx, hrun]
  refine hK _ (own_write h (i * k) _ (by omega) (i + m) (by omega) _ (by rw [List.length_append, List.length_take, hlen, Nat.add_mul]; omega) (fun p hp => ?_) (fun p hp hno => ?_)) (setCells_grown _ _ _ _)
  · rw [Nat.add_mul] at hp
    by_cases hpi : p < i * k
    · rw [List.getElem?_append_left (by rw [List.length_take]; omega), List.getElem?_take, if_pos hpi, if_neg (by omega)]
    · rw [List.getElem?_append_right (by rw [List.length_take]; omega), if_pos (by omega), List.length_take, Nat.min_eq_left (by omega)]
  · rw [Nat.add_mul] at hp
    omega

/-- 'clear' of what lies behind an owned row, within its room. -/
theorem wp_clear_tail {P : Program} {o : Oper} {a : Act} {K : Act → World → Prop} {Q : Exit → Act → World → Prop} (x : Operand) (t : TypeId)
    (ho : o.op = .call { callee := .builtin .clear, args := #[x], argTypes := #[t] }) (i0 : TypeInfo) (z : Value) (ht : P.underlying t = some (.slice e)) (hi : P.info? e = some i0) (hz : i0.zero = some z) (hzs : z.cells.size = k) (hz1 : z.cells.all (·.oneCell') = true)
    (h : w.ownsRow base e k (.slice (some ⟨g, 0, none⟩) n cap) n xs) (m c' : Nat) (hm : n + m ≤ cap) (ad : Addr) (had : 0 < m → ad = ⟨g, n * k, none⟩) (hx : a.eval x = .slice (some ad) m c')
    (hK : ∀ w', w'.ownsRow base e k (.slice (some ⟨g, 0, none⟩) n cap) n xs → w.grownBy w' (some g) → K (a.put o.dst (.tuple #[])) w') : o.wp P a w K Q := by
  have hzc : (Builtin.zeroCells z.cells m).size = m * k := by simp [Builtin.zeroCells, hzs]
  rcases Nat.eq_zero_or_pos m with h0 | h0
  · subst h0
    unfold Oper.wp execOp
    simp only [ho, resolve, invoke, builtin, Sem.run_bind, Sem.run_pure, Result.andThen_ok, List.map_toArray, List.map_cons, List.map_nil, hx]
    have hrun : (Builtin.clear_ #[t] o.type #[.slice (some ad) 0 c']).run P w = .ok (.tuple #[]) w := by
      simp [Builtin.clear_, run_underlying ht]
    simp only [hrun, Result.andThen_ok]
    exact hK w h (World.grownBy.refl w _)
  · have hadd := had h0
    subst hadd
    have hmk : n * k + m * k ≤ cap * k := by rw [← Nat.add_mul]; exact Nat.mul_le_mul_right k hm
    have hst := run_storeCells_cells (P := P) g (n * k) (Builtin.zeroCells z.cells m).toList 0 w (fun q hq => by rw [Nat.add_zero]; exact (own_some h _ (by simp [hzc] at hq; omega)).1)
      (fun q hq => by rw [Nat.add_zero]; exact (own_some h _ (by simp [hzc] at hq; omega)).2) (fun u hu => by
        simp only [Builtin.zeroCells, Array.toList_map, List.mem_map] at hu
        obtain ⟨q, hq, rfl⟩ := hu
        have hk0 : 0 < z.cells.size := by
          rcases Nat.eq_zero_or_pos z.cells.size with h' | h'
          · simp [h'] at hq
          · exact h'
        have hlt := Nat.mod_lt q hk0
        rw [getElem!_pos z.cells _ hlt]
        exact Array.all_eq_true_iff_forall_mem.1 hz1 _ (by simp))
    rw [Nat.add_zero] at hst
    have hrun : (Builtin.clear_ #[t] o.type #[.slice (some ⟨g, n * k, none⟩) m c']).run P w = .ok (.tuple #[]) (w.setCells g (n * k) (Builtin.zeroCells z.cells m).toList) := by
      have hmne : m ≠ 0 := by omega
      simp [Builtin.clear_, run_underlying ht, zeroValue, typeInfo, hi, hz, hst, hmne]
    unfold Oper.wp execOp
    simp only [ho, resolve, invoke, builtin, Sem.run_bind, Sem.run_pure, Result.andThen_ok, List.map_toArray, List.map_cons, List.map_nil, hx, hrun]
    refine hK _ (own_write h (n * k) _ (by simp [hzc]; omega) n (by omega) xs h.1 (fun p hp => ?_) (fun p hp _ => hp)) (setCells_grown _ _ _ _)
    rw [if_neg (by omega)]

theorem wpList_clear_tail {P : Program} {ops : Array Oper} {rest : List Oper} {o : Oper} {a : Act} {Q : Exit → Act → World → Prop} (hgd : o.guard = none) (x : Operand) (t : TypeId)
    (ho : o.op = .call { callee := .builtin .clear, args := #[x], argTypes := #[t] }) (i0 : TypeInfo) (z : Value) (ht : P.underlying t = some (.slice e)) (hi : P.info? e = some i0) (hz : i0.zero = some z) (hzs : z.cells.size = k) (hz1 : z.cells.all (·.oneCell') = true)
    (h : w.ownsRow base e k (.slice (some ⟨g, 0, none⟩) n cap) n xs) (m c' : Nat) (hm : n + m ≤ cap) (ad : Addr) (had : 0 < m → ad = ⟨g, n * k, none⟩) (hx : a.eval x = .slice (some ad) m c')
    (hK : ∀ w', w'.ownsRow base e k (.slice (some ⟨g, 0, none⟩) n cap) n xs → w.grownBy w' (some g) → wpList P ops Q rest (a.put o.dst (.tuple #[])) w') : wpList P ops Q (o :: rest) a w :=
  wpList_plain hgd fun _ hk => wp_clear_tail x t ho i0 z ht hi hz hzs hz1 h m c' hm ad had hx fun w' h1 h2 => hk _ _ (hK w' h1 h2)

end

/-- Two phases of a drawn region. -/
def Two (A B : World → Prop) : Nat → World → Prop
  | 0 => A
  | _ => B

end Go.Proofs.YtdlifdmnfbjokaaDoor
