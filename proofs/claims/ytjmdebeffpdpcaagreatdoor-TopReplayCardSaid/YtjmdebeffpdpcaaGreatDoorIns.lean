/- 'copy' of rows of k cells within rows of the call's own; what slices.Insert wants. -/
import Derived.Test.YtjmdebeffpdpcaaGreatDoorDel
import Derived.Laws.Externs
import Derived.Lib.Overlaps
import Derived.Lib.AppendZerosOnto
import Derived.Deep.RegionLaw
namespace Go.Proofs.YtjmdebeffpdpcaaGreatDoor
open Go.RowKit

section
variable {P : Program}

/-- 'copy' of m elements of k cells: all is read before anything is written. -/
theorem run_copyK (w : World) (dT sT ty elem : TypeId) (i0 : TypeInfo) (k m b o dLen dCap : Nat) (a : Addr) (sLen sCap : Nat) (cs : List Value)
    (hu : P.underlying dT = some (.slice elem)) (hi : P.info? elem = some i0) (hs : i0.size = k) (hm : Nat.min sLen dLen = m) (hn : cs.length = m * k)
    (hsrc : ∀ j v, cs[j]? = some v → w.cell? (a.add j) = some v) (hc : ∀ j, j < cs.length → (w.cell? ⟨b, o + j, none⟩).isSome = true) (hf : ∀ j, j < cs.length → w.frozen? ⟨b, o + j, none⟩ = false) (h1 : ∀ v ∈ cs, v.oneCell' = true) :
    (Builtin.copy_ #[dT, sT] ty #[.slice (some ⟨b, o, none⟩) dLen dCap, .slice (some a) sLen sCap]).run P w = .ok (.int .i64 (m : Int)) (w.setCells b o cs) := by
  have hl := run_loadCells_list (P := P) w a cs hsrc
  have hst := run_storeCells_cells (P := P) b o cs 0 w (by simpa using hc) (by simpa using hf) h1
  rw [hn] at hl
  simp [Builtin.copy_, run_underlying hu, Builtin.lenOf, Builtin.firstCells, sizeOf, typeInfo, hi, hs, hm, hl, hst, goInt]

theorem wpList_copyK {ops : Array Oper} {rest : List Oper} {o : Oper} {a : Act} {Q : Exit → Act → World → Prop} (w : World) (hgd : o.guard = none) (d s : Operand) (t t' : TypeId)
    (ho : o.op = .call { callee := .builtin .copy, args := #[d, s], argTypes := #[t, t'] }) (v u : Value) (hd : a.eval d = v) (hs : a.eval s = u) {v' : Value} {w' : World}
    (hr : (Builtin.copy_ #[t, t'] o.type #[v, u]).run P w = .ok v' w') (h : wpList P ops Q rest (a.put o.dst v') w') : wpList P ops Q (o :: rest) a w := by
  refine wpList_plain hgd fun K hK => ?_
  unfold Oper.wp execOp
  simp only [ho, resolve, invoke, builtin, Sem.run_bind, Sem.run_pure, Result.andThen_ok, List.map_toArray, List.map_cons, List.map_nil, hd, hs, hr]
  exact hK _ _ h

theorem step_copyK {ops : Array Oper} {o : Oper} {a : Act} {w : World} {K : Act → World → Prop} {Q : Exit → Act → World → Prop} {E : Prop}
    (hg : o.guard = none) (d x : Operand) (dT sT : TypeId) (hop : o.op = Op.call { callee := Callee.builtin Builtin.copy, args := #[d, x], argTypes := #[dT, sT] })
    (v u : Value) (hd : a.eval d = v) (hx : a.eval x = u) {v' : Value} {w' : World} (hr : (Builtin.copy_ #[dT, sT] o.type #[v, u]).run P w = .ok v' w') (hK : K (a.put o.dst v') w') :
    if Region.wanted o (yielded ops a.tmps) = true then Oper.wp P o a w K Q else E := by
  have hw : Region.wanted o (yielded ops a.tmps) = true := by simp [Region.wanted, hg]
  rw [if_pos hw]
  unfold Oper.wp
  simp [execOp, hop, resolve, invoke, builtin, hd, hx, hr, Result.andThen]
  exact hK

/-- 'append(s, v...)' where the run is known. -/
theorem wpList_append_runK {ops : Array Oper} {rest : List Oper} {o : Oper} {a : Act} {Q : Exit → Act → World → Prop} (w : World) (hgd : o.guard = none) (d s : Operand) (t t' : TypeId)
    (ho : o.op = .call { callee := .builtin .append, args := #[d, s], argTypes := #[t, t'] }) (v u : Value) (hd : a.eval d = v) (hs : a.eval s = u) {v' : Value} {w' : World}
    (hr : (Builtin.append_ #[t, t'] o.type #[v, u]).run P w = .ok v' w') (h : wpList P ops Q rest (a.put o.dst v') w') : wpList P ops Q (o :: rest) a w := by
  refine wpList_plain hgd fun K hK => ?_
  unfold Oper.wp execOp
  simp only [ho, resolve, invoke, builtin, Sem.run_bind, Sem.run_pure, Result.andThen_ok, List.map_toArray, List.map_cons, List.map_nil, hd, hs, hr]
  exact hK _ _ h
end

section
variable {w : World} {base k g n cap : Nat} {e : TypeId} {xs : List Value}

theorem own_copyK {P : Program} (h : w.ownsRow base e k (.slice (some ⟨g, 0, none⟩) n cap) n xs) (dT sT ty : TypeId) (i0 : TypeInfo) (m o dLen dCap : Nat) (a : Addr) (sLen sCap : Nat) (cs : List Value)
    (hu : P.underlying dT = some (.slice e)) (hi : P.info? e = some i0) (hs : i0.size = k) (hm : Nat.min sLen dLen = m) (hn : cs.length = m * k)
    (hsrc : ∀ j v, cs[j]? = some v → w.cell? (a.add j) = some v) (hfit : o * k + m * k ≤ cap * k) (h1 : ∀ v ∈ cs, v.oneCell' = true) :
    (Builtin.copy_ #[dT, sT] ty #[.slice (some ⟨g, o * k, none⟩) dLen dCap, .slice (some a) sLen sCap]).run P w = .ok (.int .i64 (m : Int)) (w.setCells g (o * k) cs) :=
  run_copyK w dT sT ty e i0 k m g (o * k) dLen dCap a sLen sCap cs hu hi hs hm hn hsrc (fun j hj => (own_some h _ (by omega)).1) (fun j hj => (own_some h _ (by omega)).2) h1

/-- The cells from an element on, read off an owned row. -/
theorem own_tail (h : w.ownsRow base e k (.slice (some ⟨g, 0, none⟩) n cap) n xs) (i : Nat) : ∀ j v, (xs.drop (i * k))[j]? = some v → w.cell? ((⟨g, i * k, none⟩ : Addr).add j) = some v := by
  intro j v hj
  rw [List.getElem?_drop] at hj
  have := h.cells (g := g) rfl (i * k + j) v hj
  rw [Addr.add_mid] at this ⊢
  rwa [Nat.zero_add] at this

theorem drop_len {xs : List Value} {n k i m : Nat} (h : xs.length = n * k) (hm : i + m = n) : (xs.drop (i * k)).length = m * k := by
  have : i * k + m * k = n * k := by rw [← Nat.add_mul, hm]
  rw [List.length_drop, h]; omega

/-- Behind the first copy (what stands from i on is moved up by one). -/
theorem own_up (h : w.ownsRow base e k (.slice (some ⟨g, 0, none⟩) n cap) n xs) (i : Nat) (hi : i < n) (hc : n + 1 ≤ cap) :
    (w.setCells g ((i + 1) * k) (xs.drop (i * k))).ownsRow base e k (.slice (some ⟨g, 0, none⟩) (n + 1) cap) (n + 1) (xs.take ((i + 1) * k) ++ xs.drop (i * k)) := by
  have hxl : xs.length = n * k := h.1
  have e1 : (i + 1) * k ≤ n * k := Nat.mul_le_mul_right k (by omega)
  have e2 : (i + 1) * k = i * k + k := by rw [Nat.add_mul, Nat.one_mul]
  have e3 : (n + 1) * k = n * k + k := by rw [Nat.add_mul, Nat.one_mul]
  have e4 : (n + 1) * k ≤ cap * k := Nat.mul_le_mul_right k hc
  have hdl : (xs.drop (i * k)).length = n * k - i * k := by rw [List.length_drop, hxl]
  refine own_write h _ _ (by rw [hdl]; omega) (n + 1) hc _ (by rw [List.length_append, List.length_take, hdl, Nat.min_eq_left (by omega)]; omega) (fun p hp => ?_) (fun p hp hno => ?_)
  · by_cases c : p < (i + 1) * k
    · rw [List.getElem?_append_left (by rw [List.length_take]; omega), List.getElem?_take, if_pos c, if_neg (by omega)]
    · rw [List.getElem?_append_right (by rw [List.length_take]; omega), List.length_take, Nat.min_eq_left (by omega), if_pos (by rw [hdl]; omega)]
  · rw [hdl] at hno; omega

/-- Behind the second copy. -/
theorem own_put {ys x : List Value} (h : w.ownsRow base e k (.slice (some ⟨g, 0, none⟩) n cap) n ys) (i : Nat) (hi : i < n) (hx : x.length = k) :
    (w.setCells g (i * k) x).ownsRow base e k (.slice (some ⟨g, 0, none⟩) n cap) n (ys.take (i * k) ++ x ++ ys.drop ((i + 1) * k)) := by
  have hyl : ys.length = n * k := h.1
  obtain ⟨_, _, _, hnc, _⟩ := own_cur h
  have e1 : (i + 1) * k ≤ n * k := Nat.mul_le_mul_right k (by omega)
  have e2 : (i + 1) * k = i * k + k := by rw [Nat.add_mul, Nat.one_mul]
  have e4 : n * k ≤ cap * k := Nat.mul_le_mul_right k hnc
  refine own_write h _ _ (by omega) n hnc _ (by rw [List.length_append, List.length_append, List.length_take, List.length_drop, hyl, hx]; omega) (fun p hp => ?_) (fun p hp _ => hp)
  by_cases c : p < i * k
  · rw [List.append_assoc, List.getElem?_append_left (by rw [List.length_take]; omega), List.getElem?_take, if_pos c, if_neg (by omega)]
  · by_cases c2 : p < (i + 1) * k
    · rw [List.append_assoc, List.getElem?_append_right (by rw [List.length_take]; omega), List.length_take, Nat.min_eq_left (by omega), List.getElem?_append_left (by omega), if_pos (by omega)]
    · rw [List.getElem?_append_right (by rw [List.length_append, List.length_take]; omega), List.getElem?_drop, if_neg (by omega)]
      congr 1
      rw [List.length_append, List.length_take]; omega

/-- A run of cells, from element i on, is laid over an owned row. -/
theorem own_tailput {ys zs : List Value} (h : w.ownsRow base e k (.slice (some ⟨g, 0, none⟩) n cap) n ys) (i : Nat) (_ : i ≤ n) (hz : i * k + zs.length = n * k) :
    (w.setCells g (i * k) zs).ownsRow base e k (.slice (some ⟨g, 0, none⟩) n cap) n (ys.take (i * k) ++ zs) := by
  have hyl : ys.length = n * k := h.1
  obtain ⟨_, _, _, hnc, _⟩ := own_cur h
  have e4 : n * k ≤ cap * k := Nat.mul_le_mul_right k hnc
  refine own_write h _ _ (by omega) n hnc _ (by rw [List.length_append, List.length_take, hyl]; omega) (fun p hp => ?_) (fun p hp _ => hp)
  by_cases c : p < i * k
  · rw [List.getElem?_append_left (by rw [List.length_take]; omega), List.getElem?_take, if_pos c, if_neg (by omega)]
  · rw [List.getElem?_append_right (by rw [List.length_take]; omega), List.length_take, Nat.min_eq_left (by omega), if_pos (by omega)]

end

/-- A new row, out of which an owned one is made. -/
theorem own_new {w : World} {base k n cap : Nat} {e : TypeId} {cs : Array Value} {ys : List Value} (hb : base ≤ w.heap.size) (hn : n ≤ cap) (hc : cap ≤ maxLen) (hs : cs.size = cap * k) (hy : ys.length = n * k) (ht : cs.toList.take (n * k) = ys) :
    (w.alloc (.cells cs e)).ownsRow base e k (.slice (some ⟨w.heap.size, 0, none⟩) n cap) n ys :=
  ⟨hy, .inr ⟨w.heap.size, cap, cs, rfl, hb, heap_alloc_new w _, hn, hc, hs, ht⟩⟩

end Go.Proofs.YtjmdebeffpdpcaaGreatDoor
