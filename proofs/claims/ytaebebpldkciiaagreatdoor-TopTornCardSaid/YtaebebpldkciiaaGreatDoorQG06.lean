/- Contracts and plain words, part 6: texts Ins, InsOw, T13, T14, T15, T16. -/
import Derived.Test.YtaebebpldkciiaaGreatDoorQG04
import Derived.Laws.Externs
import Derived.Lib.Overlaps
import Derived.Lib.AppendZerosOnto
import Derived.Deep.RegionLaw
import Derived.Test.YtaebebpldkciiaaGreatDoorQG01
import Derived.Test.YtaebebpldkciiaaGreatDoorQG05
namespace Go.Proofs.YtaebebpldkciiaaGreatDoor
section
open Go.RowKit
section
variable {P : Program}
theorem run_copyK (w : World) (dT sT ty elem : TypeId) (i0 : TypeInfo) (k m b o dLen dCap : Nat) (a : Addr) (sLen sCap : Nat) (cs : List Value)
  (hu : P.underlying dT = some (.slice elem)) (hi : P.info? elem = some i0) (hs : i0.size = k) (hm : Nat.min sLen dLen = m) (hn : cs.length = m * k)
  (hsrc : ∀ j v, cs[j]? = some v → w.cell? (a.add j) = some v) (hc : ∀ j, j < cs.length → (w.cell? ⟨b, o + j, none⟩).isSome = true) (hf : ∀ j, j < cs.length → w.frozen? ⟨b, o + j, none⟩ = false) (h1 : ∀ v ∈ cs, v.oneCell' = true) :
  (Builtin.copy_ #[dT, sT] ty #[.slice (some ⟨b, o, none⟩) dLen dCap, .slice (some a) sLen sCap]).run P w = .ok (.int .i64 (m : Int)) (w.setCells b o cs) := by
 have hl := run_loadCells_list (P := P) w a cs hsrc
 have hst := run_storeCells_cells (P := P) b o cs 0 w (by simpa using hc) (by simpa using hf) h1
 rw [hn] at hl
 simp [Builtin.copy_, run_underlying hu, Builtin.lenOf, Builtin.firstCells, sizeOf, typeInfo, hi, hs, hm, hl, hst, goInt]
theorem wpList_copyK {ops : Array Oper} {rest : List Oper} {o : Oper} {a : Act} {Q : Exit → Act → World → Prop} (w : World) (hgd : o.guard = none) (d s : Operand) (t t' : TypeId)
  (ho : o.op = .call { callee := .builtin .copy, args := #[d, s], argTypes := #[t, t'] }) (v u : Value) (hd : a.eval d = v) (hs : a.eval s = u) {v' : Value} {w' : World}
  (hr : (Builtin.copy_ #[t, t'] o.type #[v, u]).run P w = .ok v' w') (h : wpList P ops Q rest (a.put o.dst v') w') : wpList P ops Q (o :: rest) a w := by
 refine wpList_plain hgd fun K hK => ?_
 unfold Oper.wp execOp
 simp only [ho, resolve, invoke, builtin, Sem.run_bind, Sem.run_pure, Result.andThen_ok, List.map_toArray, List.map_cons, List.map_nil, hd, hs, hr]
 exact hK _ _ h
theorem step_copyK {ops : Array Oper} {o : Oper} {a : Act} {w : World} {K : Act → World → Prop} {Q : Exit → Act → World → Prop} {E : Prop}
  (hg : o.guard = none) (d x : Operand) (dT sT : TypeId) (hop : o.op = Op.call { callee := Callee.builtin Builtin.copy, args := #[d, x], argTypes := #[dT, sT] })
  (v u : Value) (hd : a.eval d = v) (hx : a.eval x = u) {v' : Value} {w' : World} (hr : (Builtin.copy_ #[dT, sT] o.type #[v, u]).run P w = .ok v' w') (hK : K (a.put o.dst v') w') :
  if Region.wanted o (yielded ops a.tmps) = true then Oper.wp P o a w K Q else E := by
 have hw : Region.wanted o (yielded ops a.tmps) = true := by simp [Region.wanted, hg]
 rw [if_pos hw]
 unfold Oper.wp
 simp [execOp, hop, resolve, invoke, builtin, hd, hx, hr, Result.andThen]
 exact hK
theorem wpList_append_runK {ops : Array Oper} {rest : List Oper} {o : Oper} {a : Act} {Q : Exit → Act → World → Prop} (w : World) (hgd : o.guard = none) (d s : Operand) (t t' : TypeId)
  (ho : o.op = .call { callee := .builtin .append, args := #[d, s], argTypes := #[t, t'] }) (v u : Value) (hd : a.eval d = v) (hs : a.eval s = u) {v' : Value} {w' : World}
  (hr : (Builtin.append_ #[t, t'] o.type #[v, u]).run P w = .ok v' w') (h : wpList P ops Q rest (a.put o.dst v') w') : wpList P ops Q (o :: rest) a w := by
 refine wpList_plain hgd fun K hK => ?_
 unfold Oper.wp execOp
 simp only [ho, resolve, invoke, builtin, Sem.run_bind, Sem.run_pure, Result.andThen_ok, List.map_toArray, List.map_cons, List.map_nil, hd, hs, hr]
 exact hK _ _ h
end
section
variable {w : World} {base k g n cap : Nat} {e : TypeId} {xs : List Value}
theorem own_copyK {P : Program} (h : w.ownsRow base e k (.slice (some ⟨g, 0, none⟩) n cap) n xs) (dT sT ty : TypeId) (i0 : TypeInfo) (m o dLen dCap : Nat) (a : Addr) (sLen sCap : Nat) (cs : List Value)
  (hu : P.underlying dT = some (.slice e)) (hi : P.info? e = some i0) (hs : i0.size = k) (hm : Nat.min sLen dLen = m) (hn : cs.length = m * k)
  (hsrc : ∀ j v, cs[j]? = some v → w.cell? (a.add j) = some v) (hfit : o * k + m * k ≤ cap * k) (h1 : ∀ v ∈ cs, v.oneCell' = true) :
  (Builtin.copy_ #[dT, sT] ty #[.slice (some ⟨g, o * k, none⟩) dLen dCap, .slice (some a) sLen sCap]).run P w = .ok (.int .i64 (m : Int)) (w.setCells g (o * k) cs) :=
 run_copyK w dT sT ty e i0 k m g (o * k) dLen dCap a sLen sCap cs hu hi hs hm hn hsrc (fun j hj => (own_some h _ (by omega)).1) (fun j hj => (own_some h _ (by omega)).2) h1
theorem own_tail (h : w.ownsRow base e k (.slice (some ⟨g, 0, none⟩) n cap) n xs) (i : Nat) : ∀ j v, (xs.drop (i * k))[j]? = some v → w.cell? ((⟨g, i * k, none⟩ : Addr).add j) = some v := by
 intro j v hj
 rw [List.getElem?_drop] at hj
 have := h.cells (g := g) rfl (i * k + j) v hj
 rw [Addr.add_mid] at this ⊢
 rwa [Nat.zero_add] at this
theorem drop_len {xs : List Value} {n k i m : Nat} (h : xs.length = n * k) (hm : i + m = n) : (xs.drop (i * k)).length = m * k := by
 have : i * k + m * k = n * k := by rw [← Nat.add_mul, hm]
 rw [List.length_drop, h]; omega
theorem own_up (h : w.ownsRow base e k (.slice (some ⟨g, 0, none⟩) n cap) n xs) (i : Nat) (hi : i < n) (hc : n + 1 ≤ cap) :
  (w.setCells g ((i + 1) * k) (xs.drop (i * k))).ownsRow base e k (.slice (some ⟨g, 0, none⟩) (n + 1) cap) (n + 1) (xs.take ((i + 1) * k) ++ xs.drop (i * k)) := by
 have hxl : xs.length = n * k := h.1
 have e1 : (i + 1) * k ≤ n * k := Nat.mul_le_mul_right k (by omega)
 have e2 : (i + 1) * k = i * k + k := by rw [Nat.add_mul, Nat.one_mul]
 have e3 : (n + 1) * k = n * k + k := by rw [Nat.add_mul, Nat.one_mul]
 have e4 : (n + 1) * k ≤ cap * k := Nat.mul_le_mul_right k hc
 have hdl : (xs.drop (i * k)).length = n * k - i * k := by rw [List.length_drop, hxl]
 refine own_write h _ _ (by rw [hdl]; omega) (n + 1) hc _ (by rw [List.length_append, List.length_take, hdl, Nat.min_eq_left (by omega)]; omega) (fun p hp => ?_) (fun p hp hno => ?_)
 ·by_cases c : p < (i + 1) * k
  ·rw [List.getElem?_append_left (by rw [List.length_take]; omega), List.getElem?_take, if_pos c, if_neg (by omega)]
  ·rw [List.getElem?_append_right (by rw [List.length_take]; omega), List.length_take, Nat.min_eq_left (by omega), if_pos (by rw [hdl]; omega)]
 ·rw [hdl] at hno; omega
theorem own_put {ys x : List Value} (h : w.ownsRow base e k (.slice (some ⟨g, 0, none⟩) n cap) n ys) (i : Nat) (hi : i < n) (hx : x.length = k) :
  (w.setCells g (i * k) x).ownsRow base e k (.slice (some ⟨g, 0, none⟩) n cap) n (ys.take (i * k) ++ x ++ ys.drop ((i + 1) * k)) := by
 have hyl : ys.length = n * k := h.1
 obtain ⟨_, _, _, hnc, _⟩ := own_cur h
 have e1 : (i + 1) * k ≤ n * k := Nat.mul_le_mul_right k (by omega)
 have e2 : (i + 1) * k = i * k + k := by rw [Nat.add_mul, Nat.one_mul]
 have e4 : n * k ≤ cap * k := Nat.mul_le_mul_right k hnc
 refine own_write h _ _ (by omega) n hnc _ (by rw [List.length_append, List.length_append, List.length_take, List.length_drop, hyl, hx]; omega) (fun p hp => ?_) (fun p hp _ => hp)
 by_cases c : p < i * k
 ·rw [List.append_assoc, List.getElem?_append_left (by rw [List.length_take]; omega), List.getElem?_take, if_pos c, if_neg (by omega)]
 ·by_cases c2 : p < (i + 1) * k
  ·rw [List.append_assoc, List.getElem?_append_right (by rw [List.length_take]; omega), List.length_take, Nat.min_eq_left (by omega), List.getElem?_append_left (by omega), if_pos (by omega)]
  ·rw [List.getElem?_append_right (by rw [List.length_append, List.length_take]; omega), List.getElem?_drop, if_neg (by omega)]
   congr 1
   rw [List.length_append, List.length_take]; omega
theorem own_tailput {ys zs : List Value} (h : w.ownsRow base e k (.slice (some ⟨g, 0, none⟩) n cap) n ys) (i : Nat) (_ : i ≤ n) (hz : i * k + zs.length = n * k) :
  (w.setCells g (i * k) zs).ownsRow base e k (.slice (some ⟨g, 0, none⟩) n cap) n (ys.take (i * k) ++ zs) := by
 have hyl : ys.length = n * k := h.1
 obtain ⟨_, _, _, hnc, _⟩ := own_cur h
 have e4 : n * k ≤ cap * k := Nat.mul_le_mul_right k hnc
 refine own_write h _ _ (by omega) n hnc _ (by rw [List.length_append, List.length_take, hyl]; omega) (fun p hp => ?_) (fun p hp _ => hp)
 by_cases c : p < i * k
 ·rw [List.getElem?_append_left (by rw [List.length_take]; omega), List.getElem?_take, if_pos c, if_neg (by omega)]
 ·rw [List.getElem?_append_right (by rw [List.length_take]; omega), List.length_take, Nat.min_eq_left (by omega), if_pos (by omega)]
end
theorem own_new {w : World} {base k n cap : Nat} {e : TypeId} {cs : Array Value} {ys : List Value} (hb : base ≤ w.heap.size) (hn : n ≤ cap) (hc : cap ≤ maxLen) (hs : cs.size = cap * k) (hy : ys.length = n * k) (ht : cs.toList.take (n * k) = ys) :
  (w.alloc (.cells cs e)).ownsRow base e k (.slice (some ⟨w.heap.size, 0, none⟩) n cap) n ys :=
 ⟨hy, .inr ⟨w.heap.size, cap, cs, rfl, hb, heap_alloc_new w _, hn, hc, hs, ht⟩⟩
end
section
open Go.RowKit
theorem InsertOw_info : (Tryz.prog.info? 136).map (fun i => (i.zero, i.size, i.bytes)) = some (some (.agg #[.string ByteArray.empty, .string ByteArray.empty, .string ByteArray.empty]), 3, 48) := by kernel_rfl
def InsertOwP (base n c : Nat) (A : Option Addr) (ys : List Value) (w : World) (e : Ending) (w' : World) : Prop :=
 ∃ g' c', e = .returned (.slice (some ⟨g', 0, none⟩) (n + 1) c') ∧ w'.ownsRow base 136 3 (.slice (some ⟨g', 0, none⟩) (n + 1) c') (n + 1) ys ∧ w.grownBy w' (Value.slice A n c).ownBlock ∧ ((Value.slice A n c).ownBlock = some g' ∨ g' = w.heap.size) ∧ g' < w'.heap.size
set_option maxRecDepth 100000 in
set_option maxHeartbeats 4000000 in
theorem InsertOw_end (base n c vb : Nat) (A : Option Addr) (xs x : List Value) (w : World) (hown : w.ownsRow base 136 3 (.slice A n c) n xs) (hx : x.length = 3) (h1x : ∀ u ∈ x, u.oneCell' = true)
  (hvb : w.heap[vb]? = some (.cells x.toArray 136 (0, 0))) (hn : n + 1 ≤ 1000000) (hbase : base ≤ w.heap.size) (hnc : n ≤ c ∧ c ≤ maxLen) (hnil : A = none → n = 0 ∧ c = 0) :
  Calls Tryz.prog 152 #[.slice A n c, .int .i64 (n : Int), .slice (some ⟨vb, 0, none⟩) 1 1] w (InsertOwP base n c A (xs ++ x) w) := by
 obtain ⟨i0, J0, J1, J2, J3⟩ := info_parts InsertOw_info
 obtain ⟨hnc, hcm⟩ := hnc
 unfold maxLen at hcm
 have hnews : ∀ j u, x[j]? = some u → w.cell? ((⟨vb, 0, none⟩ : Addr).add j) = some u := fun j u hu => by
  rw [Addr.add_mid, Nat.zero_add, cell_of_row w vb j _ _ _ hvb]
  simpa using hu
 have HN := Lib.hid hnews
 have HO := Lib.hid hown
 have H1 := Lib.hid h1x
 clear hnews hown h1x hvb
 cases A with
 | none =>
  obtain ⟨rfl, rfl⟩ := hnil rfl
  have t := (HO.out).1
  go_enter Tryz.func152, Tryz.ntmps152
  go_wp2_with (at_builtin; go_loud (refine wpList_append_lies _ rfl (.tmp 23) (.tmp 24) 100 rfl base 136 i0 _ 3 48 Tryz.underlying100 J0 J1 J2 J3 rfl (by decide) (.slice none 0 0) 0 xs rfl HO.out ⟨vb, 0, none⟩ 1 1 x rfl (by omega) HN.out H1.out (by decide) (by simp only [maxLen]; omega) (by omega) hbase w.heap.size rfl ?_; intro g' c' w' h2 h3 h4 h5))
  go_ret
  exact ⟨g', c', rfl, h2, h3, h4, h5⟩
 | some ad =>
  clear hnil
  by_cases hcn : c = n
  ·subst hcn
   go_enter Tryz.func152, Tryz.ntmps152
   go_wp2_with (at_builtin; go_loud (refine wpList_append_lies _ rfl (.tmp 23) (.tmp 24) 100 rfl base 136 i0 _ 3 48 Tryz.underlying100 J0 J1 J2 J3 rfl (by decide) (.slice (some ad) c c) c xs rfl HO.out ⟨vb, 0, none⟩ 1 1 x rfl (by omega) HN.out H1.out (by decide) (by simp only [maxLen]; omega) (by omega) hbase w.heap.size rfl ?_; intro g' c' w' h2 h3 h4 h5))
   go_ret
   exact ⟨g', c', rfl, h2, h3, h4, h5⟩
  ·go_enter Tryz.func152, Tryz.ntmps152
   go_wp2_with (at_builtin; go_loud (refine wpList_append_lies _ rfl (.tmp 23) (.tmp 24) 100 rfl base 136 i0 _ 3 48 Tryz.underlying100 J0 J1 J2 J3 rfl (by decide) (.slice (some ad) n c) n xs rfl HO.out ⟨vb, 0, none⟩ 1 1 x rfl (by omega) HN.out H1.out (by decide) (by simp only [maxLen]; omega) (by omega) hbase w.heap.size rfl ?_; intro g' c' w' h2 h3 h4 h5))
   go_ret
   exact ⟨g', c', rfl, h2, h3, h4, h5⟩
set_option maxRecDepth 100000 in
set_option maxHeartbeats 4000000 in
theorem InsertOw_shift (base g n c i vb : Nat) (xs x : List Value) (w : World) (hown : w.ownsRow base 136 3 (.slice (some ⟨g, 0, none⟩) n c) n xs) (h1 : ∀ u ∈ xs, u.oneCell' = true) (hx : x.length = 3) (h1x : ∀ u ∈ x, u.oneCell' = true)
  (hvb : w.heap[vb]? = some (.cells x.toArray 136 (0, 0))) (hne : vb ≠ g) (hi : i < n) (hn : n + 1 ≤ 1000000) (hroom : n + 1 ≤ c) :
  Calls Tryz.prog 152 #[.slice (some ⟨g, 0, none⟩) n c, .int .i64 (i : Int), .slice (some ⟨vb, 0, none⟩) 1 1] w (InsertOwP base n c (some ⟨g, 0, none⟩) (xs.take (i * 3) ++ x ++ xs.drop (i * 3)) w) := by
 obtain ⟨i0, J0, J1, J2, J3⟩ := info_parts InsertOw_info
 obtain ⟨cur, hg, hbg, _, hcm, hcs, _⟩ := own_cur hown
 have hlt := (hown.lt g rfl).2
 unfold maxLen at hcm
 have hnews : ∀ j u, x[j]? = some u → w.cell? ((⟨vb, 0, none⟩ : Addr).add j) = some u := fun j u hu => by
  rw [Addr.add_mid, Nat.zero_add, cell_of_row w vb j _ _ _ hvb]
  simpa using hu
 have hxl : xs.length = n * 3 := hown.1
 have hdl : (xs.drop (i * 3)).length = (n - i) * 3 := drop_len hxl (by omega)
 have hov : ∀ lb cb, (callFunc 190 #[.slice (some ⟨vb, 0, none⟩) 1 1, .slice (some ⟨g, (i + 1) * 3, none⟩) lb cb]).run Tryz.prog w = .ok (.value (.bool false)) w := fun lb cb => by
  rw [run_callFunc_extern Tryz.func190 (by kernel_rfl) (by kernel_rfl) (by kernel_rfl) (e := Extern.SlicesOverlaps.overlaps #[100, 100] #[4]) (by kernel_rfl),
   Lib.run_overlaps_apart w 100 4 136 Tryz.underlying100 3 Tryz.sizeOf136 ⟨vb, 0, none⟩ ⟨g, (i + 1) * 3, none⟩ 1 1 lb cb hne 136 136 x.length cur.size (by simp [World.shape?, hvb]) (by simp [World.shape?, hg]) (by omega) (frozen_of_row w vb 0 _ _ hvb) (frozen_of_row w vb x.length _ _ hvb)]
  rfl
 have u1 := own_up hown i hi hroom
 have g1 := setCells_grown g (xs.drop (i * 3)) ((i + 1) * 3) w
 have hcp1 : ∀ ty dc sc, (Builtin.copy_ #[100, 100] ty #[.slice (some ⟨g, (i + 1) * 3, none⟩) (n - i) dc, .slice (some ⟨g, i * 3, none⟩) (n + 1 - i) sc]).run Tryz.prog w.drew = .ok (.int .i64 ((n - i : Nat) : Int)) (w.drew.setCells g ((i + 1) * 3) (xs.drop (i * 3))) := fun ty dc sc =>
  own_copyK (w := w.drew) hown 100 100 ty i0 (n - i) (i + 1) (n - i) dc ⟨g, i * 3, none⟩ (n + 1 - i) sc _ Tryz.underlying100 J0 J2 (Nat.min_eq_right (by omega)) hdl (fun j v hj => own_tail hown i j v hj) (by omega) (fun v hv => h1 v (List.mem_of_mem_drop hv))
 obtain ⟨W1, hW1⟩ : ∃ W1, W1 = w.drew.setCells g ((i + 1) * 3) (xs.drop (i * 3)) := ⟨_, rfl⟩
 have hW1o : W1.ownsRow base 136 3 (.slice (some ⟨g, 0, none⟩) (n + 1) c) (n + 1) (xs.take ((i + 1) * 3) ++ xs.drop (i * 3)) := by rw [hW1]; exact own_up (w := w.drew) hown i hi hroom
 have hW1g : w.grownBy W1 (some g) := by
  rw [hW1]
  have := setCells_grown g (xs.drop (i * 3)) ((i + 1) * 3) w.drew
  exact ⟨this.os, this.tape, this.output, this.size, this.block⟩
 have hvb1 : W1.heap[vb]? = some (.cells x.toArray 136 (0, 0)) := by
  have hb := (Array.getElem?_eq_some_iff.1 hvb).1
  rw [hW1g.block vb hb (fun e => by injection e with e; omega)]; exact hvb
 have hcp2 : ∀ ty dc, (Builtin.copy_ #[100, 100] ty #[.slice (some ⟨g, i * 3, none⟩) (n + 1 - i) dc, .slice (some ⟨vb, 0, none⟩) 1 1]).run Tryz.prog W1 = .ok (.int .i64 ((1 : Nat) : Int)) (W1.setCells g (i * 3) x) := fun ty dc =>
  own_copyK hW1o 100 100 ty i0 1 i (n + 1 - i) dc ⟨vb, 0, none⟩ 1 1 _ Tryz.underlying100 J0 J2 (Nat.min_eq_left (by omega)) (by omega) (fun j v hj => by
   rw [Addr.add_mid, Nat.zero_add, cell_of_row W1 vb j _ _ _ hvb1]
   simpa using hj) (by omega) h1x
 have hW2 := own_put hW1o i (by omega) hx
 have hys : (xs.take ((i + 1) * 3) ++ xs.drop (i * 3)).take (i * 3) ++ x ++ (xs.take ((i + 1) * 3) ++ xs.drop (i * 3)).drop ((i + 1) * 3) = xs.take (i * 3) ++ x ++ xs.drop (i * 3) := by
  have l1 : (xs.take ((i + 1) * 3)).length = (i + 1) * 3 := by rw [List.length_take, hxl]; omega
  rw [List.take_append_of_le_length (by omega), List.take_take, Nat.min_eq_left (by omega), List.drop_append_of_le_length (by omega), List.drop_of_length_le (by omega), List.nil_append]
 rw [hys] at hW2
 have hW2g := grown_trans hW1g (setCells_grown g x (i * 3) W1)
 have HF : Hid (InsertOwP base n c (some ⟨g, 0, none⟩) (xs.take (i * 3) ++ x ++ xs.drop (i * 3)) w (.returned (.slice (some ⟨g, 0, none⟩) (n + 1) c)) (W1.setCells g (i * 3) x)) :=
  Lib.hid ⟨g, c, rfl, hW2, hW2g, .inl rfl, (hW2.lt g rfl).2⟩
 rw [← hW1] at hcp1
 clear hW2 hW2g hys hW1o hW1g hW1 hvb1 u1 g1 hnews hown h1 h1x hvb hg hdl hxl
 generalize xs.take (i * 3) ++ x ++ xs.drop (i * 3) = ys at *
 generalize xs.drop (i * 3) = zs at *
 have hb4 : ¬ (c = i) := by omega
 have hb5 : ¬ (c = i + 1) := by omega
 have hw1 : IntKind.i64.wrap ((i : Int) + 1) = (i : Int) + 1 := IntWalk.i64_in _ (by omega)
 have htn : ((i : Int) + 1).toNat = i + 1 := by omega
 have hni : n + 1 - (i + 1) = n - i := by omega
 have h0i : (0 : Int) ≤ (i : Int) + 1 := by omega
 have hin : (i : Int) + 1 ≤ (n : Int) + 1 := by omega
 have hin2 : (i : Int) ≤ (n : Int) + 1 := by omega
 go_enter Tryz.func152, Tryz.ntmps152
 go_wp2_with (simp only [hov])
 go_region_law (refine step_copyK rfl _ _ 100 100 rfl _ _ (by simp [Act.eval, Act.put]) (by simp [Act.eval, Act.put]) (hcp1 _ _ _) ?_)
 go_wp2_with (at_builtin; refine wpList_copyK _ rfl _ _ 100 100 rfl _ _ rfl rfl (hcp2 _ _) ?_)
 go_ret
 exact HF.out
set_option maxRecDepth 100000 in
set_option maxHeartbeats 4000000 in
theorem InsertOw_grow (base g n i vb : Nat) (xs x : List Value) (w : World) (hown : w.ownsRow base 136 3 (.slice (some ⟨g, 0, none⟩) n n) n xs) (h1 : ∀ u ∈ xs, u.oneCell' = true) (hx : x.length = 3) (h1x : ∀ u ∈ x, u.oneCell' = true)
  (hvb : w.heap[vb]? = some (.cells x.toArray 136 (0, 0))) (hi : i < n) (hn : n + 1 ≤ 1000000) (hbase : base ≤ w.heap.size) :
  Calls Tryz.prog 152 #[.slice (some ⟨g, 0, none⟩) n n, .int .i64 (i : Int), .slice (some ⟨vb, 0, none⟩) 1 1] w (InsertOwP base n n (some ⟨g, 0, none⟩) (xs.take (i * 3) ++ x ++ xs.drop (i * 3)) w) := by
 obtain ⟨i0, J0, J1, J2, J3⟩ := info_parts InsertOw_info
 have hlt := (hown.lt g rfl).2
 have hvlt := (Array.getElem?_eq_some_iff.1 hvb).1
 have hxl : xs.length = n * 3 := hown.1
 have hdl : (xs.drop (i * 3)).length = (n - i) * 3 := drop_len hxl (by omega)
 have htl : (xs.take (i * 3)).length = i * 3 := by rw [List.length_take, hxl]; omega
 have hold : (Builtin.firstCells i0.size i (.slice (some ⟨g, 0, none⟩) i n)).run Tryz.prog w.drew = .ok (xs.take (i * 3)).toArray w.drew := by
  rw [J2]
  exact run_firstCells_some w.drew 3 i ⟨g, 0, none⟩ i n (xs.take (i * 3)) htl (fun j v hj => by
   rw [List.getElem?_take] at hj
   split at hj
   ·exact hown.cells (g := g) rfl j v hj
   ·cases hj)
 have hik : i + (n + 1 - i) = n + 1 := by omega
 have hkk : (n : Int) + 1 - (i : Int) = ((n + 1 - i : Nat) : Int) := by omega
 obtain ⟨zc, hzc⟩ : ∃ zc : List Value, zc = (Builtin.zeroCells (Value.cells (.agg #[.string ByteArray.empty, .string ByteArray.empty, .string ByteArray.empty])) (n + 1 - i)).toList := ⟨_, rfl⟩
 have hzl : zc.length = (n + 1 - i) * 3 := by rw [hzc]; simp [Builtin.zeroCells, Value.cells]
 obtain ⟨G, hG⟩ : ∃ G, G = grownCap w (n + 1) n 136 := ⟨_, rfl⟩
 have hGn : n + 1 ≤ G := by rw [hG]; exact grownCap_ge w _ _ _
 have hGm : G ≤ maxLen := by rw [hG]; exact grownCap_le_maxLen w _ _ _ (by simp only [maxLen]; omega)
 obtain ⟨W1, hW1⟩ : ∃ W1, W1 = w.drew.alloc (.cells ((xs.take (i * 3)).toArray ++ Builtin.zeroCells (Value.cells (.agg #[.string ByteArray.empty, .string ByteArray.empty, .string ByteArray.empty])) (n + 1 - i) ++ Builtin.zeroCells (Value.cells (.agg #[.string ByteArray.empty, .string ByteArray.empty, .string ByteArray.empty])) (G - (n + 1))) 136) := ⟨_, rfl⟩
 have hrz : ∀ ty, (Builtin.append_ #[100, 3] ty #[.slice (some ⟨g, 0, none⟩) i n, .int .i64 ((n : Int) + 1 - (i : Int))]).run Tryz.prog w = .ok (.slice (some ⟨w.heap.size, 0, none⟩) (n + 1) G) W1 := fun ty => by
  have h := Lib.run_append_grow_zeros w 100 3 ty 136 i0 _ .i64 .i64 Tryz.underlying100 Tryz.underlying3 J0 J1 (some ⟨g, 0, none⟩) i n (xs.take (i * 3)) hold (n + 1 - i) (by omega) (by omega) (by omega) (by omega) (by rw [J3]; omega) (by rw [J3, hik]; exact growslice_fits (by omega) (by omega))
  rw [hik, ← hG, ← hW1] at h
  rw [hkk]
  exact h
 have hy1 : (xs.take (i * 3) ++ zc).length = (n + 1) * 3 := by rw [List.length_append, htl, hzl, ← Nat.add_mul, hik]
 have hW1o : W1.ownsRow base 136 3 (.slice (some ⟨w.heap.size, 0, none⟩) (n + 1) G) (n + 1) (xs.take (i * 3) ++ zc) := by
  rw [hW1]
  refine own_new (w := w.drew) hbase hGn hGm ?_ hy1 ?_
  ·have e1 : i * 3 + (n + 1 - i) * 3 = (n + 1) * 3 := by rw [← Nat.add_mul, hik]
   simp [Builtin.zeroCells, Value.cells, hxl]
   omega
  ·rw [Array.toList_append, Array.toList_append, List.toList_toArray, ← hzc, List.take_append_of_le_length (by rw [hy1]; omega), List.take_of_length_le (by rw [hy1]; omega)]
 have hW1g : w.grownBy W1 (some g) := by
  rw [hW1]
  exact ⟨rfl, rfl, rfl, by simp, fun k hk _ => Below.heap_alloc w.drew _ k hk⟩
 have hvb1 : W1.heap[vb]? = some (.cells x.toArray 136 (0, 0)) := by rw [hW1]; exact (Below.heap_alloc w.drew _ vb hvlt).trans hvb
 have hg1 : W1.heap[g]? = w.heap[g]? := by rw [hW1]; exact Below.heap_alloc w.drew _ g hlt
 have hcp1 : ∀ ty dc, (Builtin.copy_ #[100, 100] ty #[.slice (some ⟨w.heap.size, i * 3, none⟩) (n + 1 - i) dc, .slice (some ⟨vb, 0, none⟩) 1 1]).run Tryz.prog W1 = .ok (.int .i64 ((1 : Nat) : Int)) (W1.setCells w.heap.size (i * 3) x) := fun ty dc =>
  own_copyK hW1o 100 100 ty i0 1 i (n + 1 - i) dc ⟨vb, 0, none⟩ 1 1 _ Tryz.underlying100 J0 J2 (Nat.min_eq_left (by omega)) (by omega) (fun j v hj => by
   rw [Addr.add_mid, Nat.zero_add, cell_of_row W1 vb j _ _ _ hvb1]
   simpa using hj) (by omega) h1x
 have hW2o := own_put hW1o i (by omega) hx
 have hW2g := setCells_grown w.heap.size x (i * 3) W1
 obtain ⟨W2, hW2⟩ : ∃ W2, W2 = W1.setCells w.heap.size (i * 3) x := ⟨_, rfl⟩
 rw [← hW2] at hcp1 hW2o hW2g
 have hg2 : W2.heap[g]? = w.heap[g]? := (hW2g.block g (by have := hW1g.size; omega) (fun e => by injection e with e; omega)).trans hg1
 have hcp2 : ∀ ty dc sc, (Builtin.copy_ #[100, 100] ty #[.slice (some ⟨w.heap.size, (i + 1) * 3, none⟩) (n - i) dc, .slice (some ⟨g, i * 3, none⟩) (n - i) sc]).run Tryz.prog W2.drew = .ok (.int .i64 ((n - i : Nat) : Int)) (W2.drew.setCells w.heap.size ((i + 1) * 3) (xs.drop (i * 3))) := fun ty dc sc =>
  own_copyK (w := W2.drew) hW2o 100 100 ty i0 (n - i) (i + 1) (n - i) dc ⟨g, i * 3, none⟩ (n - i) sc _ Tryz.underlying100 J0 J2 (Nat.min_self _) hdl (fun j v hj => by
   have h := own_tail hown i j v hj
   rw [Addr.add_mid] at h ⊢
   exact (World.cell?_of_block (a := ⟨g, i * 3 + j, none⟩) hg2).trans h) (by omega) (fun v hv => h1 v (List.mem_of_mem_drop hv))
 have hW3o := own_tailput (w := W2.drew) hW2o (i + 1) (by omega) (zs := xs.drop (i * 3)) (by rw [hdl]; omega)
 have hys : ((xs.take (i * 3) ++ zc).take (i * 3) ++ x ++ (xs.take (i * 3) ++ zc).drop ((i + 1) * 3)).take ((i + 1) * 3) ++ xs.drop (i * 3) = xs.take (i * 3) ++ x ++ xs.drop (i * 3) := by
  rw [List.take_append_of_le_length (l₂ := zc) (by omega), List.take_take, Nat.min_self, List.take_append_of_le_length (by rw [List.length_append, htl, hx]; omega), List.take_of_length_le (by rw [List.length_append, htl, hx]; omega)]
 rw [hys] at hW3o
 have hW3g := setCells_grown w.heap.size (xs.drop (i * 3)) ((i + 1) * 3) W2.drew
 have hgr : w.grownBy (W2.drew.setCells w.heap.size ((i + 1) * 3) (xs.drop (i * 3))) (some g) := by
  refine ⟨?_, ?_, ?_, ?_, fun k hk hne => ?_⟩
  ·exact hW3g.os.trans (hW2g.os.trans hW1g.os)
  ·exact hW3g.tape.trans (hW2g.tape.trans hW1g.tape)
  ·exact hW3g.output.trans (hW2g.output.trans hW1g.output)
  ·exact Nat.le_trans hW1g.size (Nat.le_trans hW2g.size hW3g.size)
  ·have a1 : k < W1.heap.size := Nat.lt_of_lt_of_le hk hW1g.size
   have a2 : k < W2.heap.size := Nat.lt_of_lt_of_le a1 hW2g.size
   have a3 : some k ≠ some w.heap.size := fun e => by injection e with e; omega
   exact (hW3g.block k a2 a3).trans ((hW2g.block k a1 a3).trans (hW1g.block k hk hne))
 have HF : Hid (InsertOwP base n n (some ⟨g, 0, none⟩) (xs.take (i * 3) ++ x ++ xs.drop (i * 3)) w (.returned (.slice (some ⟨w.heap.size, 0, none⟩) (n + 1) G)) (W2.drew.setCells w.heap.size ((i + 1) * 3) (xs.drop (i * 3)))) :=
  Lib.hid ⟨w.heap.size, G, rfl, hW3o, hgr, .inr rfl, (hW3o.lt w.heap.size rfl).2⟩
 unfold maxLen at hGm
 clear hW3o hW3g hgr hys hW2o hW2g hg2 hW2 hW1o hW1g hW1 hvb1 hg1 hy1 hG hzl hzc hold hown h1 h1x hvb hdl hxl htl
 generalize xs.take (i * 3) ++ x ++ xs.drop (i * 3) = ys at *
 generalize xs.drop (i * 3) = zs at *
 generalize hNN : w.heap.size = NN at *
 clear hNN
 have hb3 : ¬ (n = i) := by omega
 have hb4 : ¬ (G = i) := by omega
 have hb5 : ¬ (G = i + 1) := by omega
 have hw1 : IntKind.i64.wrap ((i : Int) + 1) = (i : Int) + 1 := IntWalk.i64_in _ (by omega)
 have htn : ((i : Int) + 1).toNat = i + 1 := by omega
 have hni : n + 1 - (i + 1) = n - i := by omega
 have h0i : (0 : Int) ≤ (i : Int) + 1 := by omega
 have hin : (i : Int) + 1 ≤ (n : Int) + 1 := by omega
 have hin1 : (i : Int) ≤ (n : Int) := by omega
 have hin2 : (i : Int) ≤ (n : Int) + 1 := by omega
 clear hkk hik
 go_enter Tryz.func152, Tryz.ntmps152
 go_wp2_with (first
  | (at_builtin; refine wpList_append_runK _ rfl _ _ 100 3 rfl _ _ rfl rfl (hrz _) ?_)
  | (at_builtin; refine wpList_copyK _ rfl _ _ 100 100 rfl _ _ rfl rfl (hcp1 _ _) ?_))
 go_region_law (refine step_copyK rfl _ _ 100 100 rfl _ _ (by simp [Act.eval, Act.put]) (by simp [Act.eval, Act.put]) (hcp2 _ _ _) ?_)
 go_wp2
 go_ret
 exact HF.out
theorem InsertOw_own (base n c i vb : Nat) (A : Option Addr) (xs x : List Value) (w : World) (hown : w.ownsRow base 136 3 (.slice A n c) n xs) (h1 : ∀ u ∈ xs, u.oneCell' = true) (hx : x.length = 3) (h1x : ∀ u ∈ x, u.oneCell' = true)
  (hvb : w.heap[vb]? = some (.cells x.toArray 136 (0, 0))) (hne : (Value.slice A n c).ownBlock ≠ some vb) (hi : i ≤ n) (hn : n + 1 ≤ 1000000) (hbase : base ≤ w.heap.size) :
  Calls Tryz.prog 152 #[.slice A n c, .int .i64 (i : Int), .slice (some ⟨vb, 0, none⟩) 1 1] w (InsertOwP base n c A (xs.take (i * 3) ++ x ++ xs.drop (i * 3)) w) := by
 have hxl : xs.length = n * 3 := hown.1
 by_cases hin : i = n
 ·subst hin
  rw [List.take_of_length_le (by omega), List.drop_of_length_le (by omega), List.append_nil]
  exact InsertOw_end base i c vb A xs x w hown hx h1x hvb hn hbase (own_cap hown) (fun h => own_nil hown h)
 ·obtain ⟨g, cap, hv, _, _⟩ := hown.form (by omega)
  have hA : A = some ⟨g, 0, none⟩ := by injection hv
  subst hA
  have hcap := own_cap hown
  by_cases hr : n + 1 ≤ c
  ·exact InsertOw_shift base g n c i vb xs x w hown h1 hx h1x hvb (fun e => hne (by rw [e]; rfl)) (by omega) hn hr
  ·obtain rfl : c = n := by omega
   exact InsertOw_grow base g c i vb xs x w hown h1 hx h1x hvb (by omega) hn hbase
end
section
open Go.RowKit
theorem OwA.nil {A : Option Addr} {n : Nat} {l : List Ow} {w : World} (h : OwA A n l w) : A = none → n = 0 := fun hA => by
 refine Nat.eq_zero_of_not_pos fun h0 => ?_
 obtain ⟨_, _, e, _⟩ := h.2 h0
 rw [hA] at e; cases e
theorem owV_one (x : Ow) : ∀ u ∈ owV x, u.oneCell' = true := by
 intro u hu
 simp only [owV, List.mem_cons, List.not_mem_nil, or_false] at hu
 rcases hu with rfl | rfl | rfl <;> rfl
theorem CloneO_any {A : Option Addr} {n : Nat} (c : Nat) {l : List Ow} {w : World} (h : OwA A n l w) (hn : n ≤ 24) :
  Calls Tryz.prog 117 #[.slice A n c] w fun e w' => ∃ v, e = .returned v ∧ w'.ownsRow w.heap.size 136 3 v n (rowsV owV l) ∧ Below w.heap.size w w' := by
 have := CloneOw_any A n c (fun i => owV l[i]!) w h.2 (fun _ _ => rfl) (fun i _ u hu => owV_one _ u hu) h.nil (by unfold maxLen; omega) (by omega)
 rw [← h.1, ← rowsV_flat owV_len l] at this
 rw [← h.1]; exact this
set_option maxRecDepth 100000 in
set_option maxHeartbeats 4000000 in
theorem Of_any (A : Option Addr) (l : List Ow) (n c : Nat) (s : ByteArray) (w : World) (hA : OwA A n l w) (hok : OwOk l) :
  Calls Tryz.prog 111 #[.slice A n c, .string s] w fun e w' => e = .returned (if isO l s = true then .tuple #[.string (l[lowO l s]!).owner, .int .i64 0] else .tuple #[.string .empty, .int .i64 8]) ∧ Below w.heap.size w w' := by
 have hn := hok.n
 rw [hA.1] at hn
 have HC := Lib.hid (OCheck_ok A n c l w hA hok)
 have HP := Lib.hid (fun (W : World) (hb : Below w.heap.size w W) => (Place_any A l n c s W (hA.below hb) (by omega)).mono fun e W2 h => (show e = .returned (.tuple #[.int .i64 (lowO l s : Nat), .bool (isO l s)]) ∧ Below w.heap.size w W2 from ⟨h.1, hb.trans (h.2.mono hb.size)⟩))
 cases hi : isO l s with
 | true =>
  rw [hi] at HP
  have hp : lowO l s < n := by
   unfold isO at hi
   rw [hA.1] at hi
   simp only [Bool.and_eq_true, decide_eq_true_eq] at hi
   exact hi.1
  obtain ⟨b, off, rfl, hb, hr⟩ := hA.2 (by omega)
  have HR : Hid (w.cell? ⟨b, off + lowO l s * 3 + 1, none⟩ = some (.string (l[lowO l s]!).owner)) := Lib.hid (hr (lowO l s) hp 1 _ rfl)
  generalize (l[lowO l s]!).owner = o at *
  generalize lowO l s = p at *
  rw [if_pos rfl]
  have l1 : (p : Int) < (n : Int) := by omega
  have l0 : (0 : Int) ≤ (p : Int) := by omega
  clear hr hi hA hok hn
  go_enter Tryz.func111, Tryz.ntmps111
  go_wp2_with (first
   | (go_at_call 149; go_loud (refine HC.out.mono ?_; rintro e w1 ⟨rfl, hb1⟩))
   | (go_at_call 150; go_loud (refine (HP.out _ (by exact hb1)).mono ?_; rintro e w2 ⟨rfl, hb2⟩; have e0 : w2.cell? ⟨b, off + p * 3 + 1, none⟩ = some (.string o) := (hb2.cell (p := ⟨b, off + p * 3 + 1, none⟩) hb).trans HR.out)))
  go_ret2
  exact ⟨rfl, hb2⟩
 | false =>
  rw [hi] at HP
  generalize lowO l s = p at *
  rw [if_neg (by decide)]
  clear hi hA hok hn
  go_enter Tryz.func111, Tryz.ntmps111
  go_wp2_with (first
   | (go_at_call 149; go_loud (refine HC.out.mono ?_; rintro e w1 ⟨rfl, hb1⟩))
   | (go_at_call 150; go_loud (refine (HP.out _ (by exact hb1)).mono ?_; rintro e w2 ⟨rfl, hb2⟩)))
  go_ret2
  exact ⟨rfl, hb2⟩
def beE (l : List Ow) (s by_ : ByteArray) : Int := if nameB s = false ∨ nameB by_ = false then 3 else if isO l s = true then 7 else 0
def insO (l : List Ow) (y : Ow) : List Ow := l.take (lowO l y.call) ++ y :: l.drop (lowO l y.call)
set_option maxRecDepth 100000 in
set_option maxHeartbeats 4000000 in
theorem begin_no (A : Option Addr) (l : List Ow) (n c : Nat) (s by_ : ByteArray) (w : World) (hA : OwA A n l w) (hok : OwOk l) (hs : s.size ≤ maxLen) (hb : by_.size ≤ maxLen) (hE : beE l s by_ ≠ 0) :
  Calls Tryz.prog 103 #[.slice A n c, .string s, .string by_] w fun e w' => e = .returned (.tuple #[.slice none 0 0, .int .i64 (beE l s by_)]) ∧ Below w.heap.size w w' := by
 have hn := hok.n
 rw [hA.1] at hn
 have HC := Lib.hid (OCheck_ok A n c l w hA hok)
 have HP := Lib.hid (fun (W : World) (hb : Below w.heap.size w W) => (Place_any A l n c s W (hA.below hb) (by omega)).mono fun e W2 h => (show e = .returned (.tuple #[.int .i64 (lowO l s : Nat), .bool (isO l s)]) ∧ Below w.heap.size w W2 from ⟨h.1, hb.trans (h.2.mono hb.size)⟩))
 have HN1 := Lib.hid (fun (W : World) (hb2 : Below w.heap.size w W) => (OName_any s W hs).mono fun e W2 h => (show e = .returned (.bool (nameB s)) ∧ Below w.heap.size w W2 from ⟨h.1, hb2.trans (h.2.mono hb2.size)⟩))
 have HN2 := Lib.hid (fun (W : World) (hb2 : Below w.heap.size w W) => (OName_any by_ W hb).mono fun e W2 h => (show e = .returned (.bool (nameB by_)) ∧ Below w.heap.size w W2 from ⟨h.1, hb2.trans (h.2.mono hb2.size)⟩))
 have tok : True := trivial
 generalize lowO l s = p at *
 cases h1 : nameB s with
 | false =>
  have HR : Hid (beE l s by_ = 3) := Lib.hid (by unfold beE; rw [if_pos (.inl h1)])
  rw [h1] at HN1
  rw [HR.out]
  generalize isO l s = is at *
  clear h1 hE hA hok hn hs hb
  go_enter Tryz.func103, Tryz.ntmps103
  go_wp2_with (first
   | (go_at_call 149; go_loud (refine HC.out.mono ?_; rintro e w1 ⟨rfl, hb1⟩))
   | (go_at_call 150; go_loud (refine (HP.out _ (by exact hb1)).mono ?_; rintro e w2 ⟨rfl, hb2⟩))
   | (go_at_call 151; go_loud (refine (HN1.out _ (by exact hb2)).mono ?_; rintro e w3 ⟨rfl, hb3⟩)))
  go_ret2
  exact ⟨rfl, hb3⟩
 | true =>
  rw [h1] at HN1
  cases h2 : nameB by_ with
  | false =>
   have HR : Hid (beE l s by_ = 3) := Lib.hid (by unfold beE; rw [if_pos (.inr h2)])
   rw [h2] at HN2
   rw [HR.out]
   generalize isO l s = is at *
   clear h1 h2 hE hA hok hn hs hb
   go_enter Tryz.func103, Tryz.ntmps103
   go_wp2_with (first
    | (go_at_call 149; go_loud (refine HC.out.mono ?_; rintro e w1 ⟨rfl, hb1⟩))
    | (go_at_call 150; go_loud (refine (HP.out _ (by exact hb1)).mono ?_; rintro e w2 ⟨rfl, hb2⟩))
    | (go_at_call 151; go_loud (first | (have _t := tok; refine (HN1.out _ (by exact hb2)).mono ?_; rintro e w3 ⟨rfl, hb3⟩; clear tok) | (refine (HN2.out _ (by exact hb3)).mono ?_; rintro e w4 ⟨rfl, hb4⟩))))
   go_ret2
   exact ⟨rfl, hb4⟩
  | true =>
   have h3 : isO l s = true := by
    cases h3 : isO l s with
    | true => rfl
    | false => exact absurd (by unfold beE; rw [if_neg (by rw [h1, h2]; rintro (h | h) <;> cases h), h3, if_neg (by decide)]) hE
   have HR : Hid (beE l s by_ = 7) := Lib.hid (by unfold beE; rw [if_neg (by rw [h1, h2]; rintro (h | h) <;> cases h), if_pos h3])
   rw [h2] at HN2
   rw [HR.out]
   rw [h3] at HP
   clear h1 h2 h3 hE hA hok hn hs hb
   go_enter Tryz.func103, Tryz.ntmps103
   go_wp2_with (first
    | (go_at_call 149; go_loud (refine HC.out.mono ?_; rintro e w1 ⟨rfl, hb1⟩))
    | (go_at_call 150; go_loud (refine (HP.out _ (by exact hb1)).mono ?_; rintro e w2 ⟨rfl, hb2⟩))
    | (go_at_call 151; go_loud (first | (have _t := tok; refine (HN1.out _ (by exact hb2)).mono ?_; rintro e w3 ⟨rfl, hb3⟩; clear tok) | (refine (HN2.out _ (by exact hb3)).mono ?_; rintro e w4 ⟨rfl, hb4⟩))))
   go_ret2
   exact ⟨rfl, hb4⟩
end
section
open Go.RowKit
theorem OwA.of_own {base n c : Nat} {A : Option Addr} {l : List Ow} {w : World} (h : w.ownsRow base 136 3 (.slice A n c) n (rowsV owV l)) (hn : l.length = n) : OwA A n l w :=
 ⟨hn, Sl_rows owV_len h hn (by decide)⟩
theorem insO_len (l : List Ow) (y : Ow) : (insO l y).length = l.length + 1 := by
 have := lowO_le l y.call
 unfold insO
 simp only [List.length_append, List.length_cons, List.length_take, List.length_drop]
 omega
set_option maxRecDepth 100000 in
set_option maxHeartbeats 8000000 in
theorem begin_ok (A : Option Addr) (l : List Ow) (n c : Nat) (s by_ : ByteArray) (w : World) (hA : OwA A n l w) (hok : OwOk l) (h24 : n < 24) (h1 : nameB s = true) (h2 : nameB by_ = true) (h3 : isO l s = false) :
  Calls Tryz.prog 103 #[.slice A n c, .string s, .string by_] w fun e w' => ∃ (A' : Option Addr) (c' : Nat), e = .returned (.tuple #[.slice A' (n + 1) c', .int .i64 0]) ∧ w'.ownsRow w.heap.size 136 3 (.slice A' (n + 1) c') (n + 1) (rowsV owV (insO l ⟨s, by_, .empty⟩)) ∧ Below w.heap.size w w' := by
 have hs : s.size ≤ maxLen := by have := (name_size h1).2; unfold maxLen; omega
 have hb : by_.size ≤ maxLen := by have := (name_size h2).2; unfold maxLen; omega
 have hl := hA.1
 have hle := lowO_le l s
 have HC := Lib.hid (OCheck_ok A n c l w hA hok)
 have HP := Lib.hid (fun (W : World) (hb : Below w.heap.size w W) => (Place_any A l n c s W (hA.below hb) (by omega)).mono fun e W2 h => (show e = .returned (.tuple #[.int .i64 (lowO l s : Nat), .bool false]) ∧ Below w.heap.size w W2 from ⟨by rw [h.1, h3], hb.trans (h.2.mono hb.size)⟩))
 have HN1 := Lib.hid (fun (W : World) (hb2 : Below w.heap.size w W) => (OName_any s W hs).mono fun e W2 h => (show e = .returned (.bool true) ∧ Below w.heap.size w W2 from ⟨by rw [h.1, h1], hb2.trans (h.2.mono hb2.size)⟩))
 have HN2 := Lib.hid (fun (W : World) (hb2 : Below w.heap.size w W) => (OName_any by_ W hb).mono fun e W2 h => (show e = .returned (.bool true) ∧ Below w.heap.size w W2 from ⟨by rw [h.1, h2], hb2.trans (h.2.mono hb2.size)⟩))
 have HCl := Lib.hid (fun (W : World) (hb : Below w.heap.size w W) => CloneO_any c (hA.below hb) (by omega))
 have HIn : Hid (insO l ⟨s, by_, .empty⟩ = l.take (lowO l s) ++ (⟨s, by_, .empty⟩ : Ow) :: l.drop (lowO l s)) := Lib.hid rfl
 have HLen := Lib.hid (insO_len l ⟨s, by_, .empty⟩)
 have HRi := Lib.hid (rowsV_ins owV_len l (lowO l s) hle ⟨s, by_, .empty⟩)
 have HL := Lib.hid hl
 have tok : True := trivial
 have b1 : ((n : Int) == 24) = false := by rw [beq_eq_false_iff_ne]; omega
 rw [hl] at hle
 generalize insO l ⟨s, by_, .empty⟩ = m at *
 generalize lowO l s = p at *
 clear h1 h2 h3 hA hok hs hb hl
 go_enter Tryz.func103, Tryz.ntmps103
 go_wp2_with (first
  | (go_at_call 149; go_loud (refine HC.out.mono ?_; rintro e w1 ⟨rfl, hb1⟩))
  | (go_at_call 150; go_loud (refine (HP.out _ (by exact hb1)).mono ?_; rintro e w2 ⟨rfl, hb2⟩))
  | (go_at_call 151; go_loud (first | (have _t := tok; refine (HN1.out _ (by exact hb2)).mono ?_; rintro e w3 ⟨rfl, hb3⟩; clear tok) | (refine (HN2.out _ (by exact hb3)).mono ?_; rintro e w4 ⟨rfl, hb4⟩)))
  | (go_at_call 117; go_loud (refine (HCl.out _ (by exact hb4)).mono ?_; rintro e w5 ⟨v5, rfl, ho5, hb5⟩; obtain ⟨A5, c5, rfl⟩ := own_shape ho5; have HO5 := Lib.hid ho5; have HB5 := Lib.hid (bstep hb4 hb5); have HZ4 := Lib.hid hb4.size; have HZ5 := Lib.hid hb5.size; clear ho5 hb5))
  | (go_at_call 152; go_loud (refine (InsertOw_own w4.heap.size n c5 p w5.heap.size A5 (rowsV owV l) (owV ⟨s, by_, .empty⟩) (w5.alloc (.cells #[.string s, .string by_, .string .empty] 136)) (HO5.out.alloc _) (rowsV_one owV_one l) rfl (owV_one _) (heap_alloc_new w5 _) (fun he => by have := (HO5.out.lt _ he).2; omega) hle (by omega) (by have := HZ5.out; simp; omega)).mono ?_; rintro e w6 ⟨g6, c6, rfl, ho6, hg6, _, _⟩)))
 go_ret2
 refine ⟨some ⟨g6, 0, none⟩, c6, rfl, ?_, ?_⟩
 ·rw [HIn.out]
  have e1 := HRi.out
  rw [← e1]
  exact own_mono ho6 HZ4.out
 ·exact below_app HB5.out HB5.out.size HO5.out HZ4.out hg6
end
section
open Go.RowKit
def ltO (x y : Ow) : Prop := lsS x.call y.call = true
theorem pw_up {l : List Ow} (h : l.Pairwise ltO) (i : Nat) (h0 : 0 < i) (hi : i < l.length) : lsS (l[i - 1]!).call (l[i]!).call = true := by
 rw [getElem!_pos l (i - 1) (by omega), getElem!_pos l i hi]
 exact List.pairwise_iff_getElem.1 h (i - 1) i (by omega) hi (by omega)
theorem up_pw : ∀ {l : List Ow}, (∀ i, 0 < i → i < l.length → lsS (l[i - 1]!).call (l[i]!).call = true) → l.Pairwise ltO
 | [], _ => List.Pairwise.nil
 | x :: r, h => by
  have hr : r.Pairwise ltO := up_pw (l := r) (fun i h0 hi => by
   have h5 := h (i + 1) (by omega) (by simp; omega)
   obtain ⟨k, rfl⟩ : ∃ k, i = k + 1 := ⟨i - 1, by omega⟩
   rw [show k + 1 + 1 - 1 = k + 1 by omega, List.getElem!_cons_succ, List.getElem!_cons_succ] at h5
   rw [show k + 1 - 1 = k by omega]; exact h5)
  refine List.Pairwise.cons (fun y hy => ?_) hr
  cases r with
  | nil => simp at hy
  | cons z r =>
   have hz : lsS x.call z.call = true := by have h5 := h 1 (by omega) (by simp); simpa using h5
   rcases List.mem_cons.1 hy with rfl | hy
   ·exact hz
   ·exact lsS_tr hz ((List.pairwise_cons.1 hr).1 y hy)
theorem OwOk.pw {l : List Ow} (h : OwOk l) : l.Pairwise ltO := up_pw h.up
theorem OwOk.mem {l : List Ow} (h : OwOk l) {x : Ow} (hx : x ∈ l) : OwE x := by
 obtain ⟨i, hi, rfl⟩ := List.getElem_of_mem hx
 have := h.e i hi
 rwa [getElem!_pos l i hi] at this
theorem OwOk.mk' {l : List Ow} (hn : l.length ≤ 24) (he : ∀ x ∈ l, OwE x) (hp : l.Pairwise ltO) : OwOk l :=
 ⟨hn, fun i hi => by rw [getElem!_pos l i hi]; exact he _ (List.getElem_mem hi), fun i h0 hi => pw_up hp i h0 hi⟩
theorem take_low : ∀ (l : List Ow) (s : ByteArray), ∀ x ∈ l.take (lowO l s), lsS x.call s = true
 | [], _, x, hx => by simp at hx
 | y :: r, s, x, hx => by
  unfold lowO at hx
  by_cases h : lsS y.call s = true
  ·rw [if_pos h, List.take_succ_cons] at hx
   rcases List.mem_cons.1 hx with rfl | hx
   ·exact h
   ·exact take_low r s x hx
  ·rw [if_neg h] at hx; simp at hx
theorem isO_cons {y : Ow} {r : List Ow} {s : ByteArray} (h : lsS y.call s = true) : isO (y :: r) s = isO r s := by
 unfold isO
 have e : lowO (y :: r) s = lowO r s + 1 := by rw [lowO, if_pos h]
 rw [e, List.getElem!_cons_succ]
 congr 1
 by_cases h2 : lowO r s < r.length
 ·rw [decide_eq_true h2]; exact decide_eq_true (by simp; omega)
 ·rw [decide_eq_false h2]; exact decide_eq_false (by simp; omega)
theorem drop_low : ∀ {l : List Ow} {s : ByteArray}, l.Pairwise ltO → isO l s = false → ∀ x ∈ l.drop (lowO l s), lsS s x.call = true
 | [], _, _, _, x, hx => by simp at hx
 | y :: r, s, hp, hi, x, hx => by
  by_cases h : lsS y.call s = true
  ·have e : lowO (y :: r) s = lowO r s + 1 := by rw [lowO, if_pos h]
   rw [e, List.drop_succ_cons] at hx
   rw [isO_cons h] at hi
   exact drop_low (List.pairwise_cons.1 hp).2 hi x hx
  ·have e : lowO (y :: r) s = 0 := by rw [lowO, if_neg h]
   have hne : y.call ≠ s := by
    intro he
    unfold isO at hi
    rw [e] at hi
    simp at hi
    exact hi he
   have h' : lsS y.call s = false := by simpa using h
   have hy : lsS s y.call = true := by
    cases h3 : lsS s y.call with
    | true => rfl
    | false => exact absurd (lsS_anti h' h3) hne
   rw [e, List.drop_zero] at hx
   rcases List.mem_cons.1 hx with rfl | hx
   ·exact hy
   ·exact lsS_tr hy ((List.pairwise_cons.1 hp).1 x hx)
theorem insO_ok {l : List Ow} (h : OwOk l) (h24 : l.length < 24) {y : Ow} (hy : OwE y) (hi : isO l y.call = false) : OwOk (insO l y) := by
 refine OwOk.mk' (by rw [insO_len]; omega) (fun x hx => ?_) ?_
 ·unfold insO at hx
  rcases List.mem_append.1 hx with hx | hx
  ·exact h.mem (List.mem_of_mem_take hx)
  ·rcases List.mem_cons.1 hx with rfl | hx
   ·exact hy
   ·exact h.mem (List.mem_of_mem_drop hx)
 ·unfold insO
  have hp := h.pw
  refine List.pairwise_append.2 ⟨hp.sublist (List.take_sublist _ _), List.Pairwise.cons (fun x hx => drop_low hp hi x hx) (hp.sublist (List.drop_sublist _ _)), fun a ha b hb => ?_⟩
  have h1 := take_low l y.call a ha
  rcases List.mem_cons.1 hb with rfl | hb
  ·exact h1
  ·exact lsS_tr h1 (drop_low hp hi b hb)
theorem setO_ok {l : List Ow} (h : OwOk l) {i : Nat} (_hi : i < l.length) {y : Ow} (hy : OwE y) (hc : y.call = (l[i]!).call) : OwOk (l.set i y) := by
 refine ⟨by rw [List.length_set]; exact h.n, fun j hj => ?_, fun j h0 hj => ?_⟩
 ·rw [List.length_set] at hj
  rw [getElem!_pos _ j (by rw [List.length_set]; exact hj), List.getElem_set]
  split
  ·exact hy
  ·have := h.e j hj; rwa [getElem!_pos l j hj] at this
 ·rw [List.length_set] at hj
  have hcall : ∀ k, k < l.length → ((l.set i y)[k]!).call = (l[k]!).call := fun k hk => by
   rw [getElem!_pos _ k (by rw [List.length_set]; exact hk), List.getElem_set]
   split
   ·rename_i e; subst e; exact hc
   ·rw [getElem!_pos l k hk]
  rw [hcall (j - 1) (by omega), hcall j hj]
  exact h.up j h0 hj
theorem delO_ok {l : List Ow} (h : OwOk l) (i : Nat) : OwOk (l.take i ++ l.drop (i + 1)) := by
 have hs : (l.take i ++ l.drop (i + 1)).Sublist l := by
  have h1 : (l.drop (i + 1)).Sublist (l.drop i) := by
   rw [show i + 1 = i + 1 from rfl, ← List.drop_drop]
   exact List.drop_sublist _ _
  have h2 := (List.Sublist.refl (l.take i)).append h1
  rwa [List.take_append_drop] at h2
 exact OwOk.mk' (Nat.le_trans hs.length_le h.n) (fun x hx => h.mem (hs.subset hx)) (h.pw.sublist hs)
end
section
open Go.RowKit
theorem ow_cells {W : World} {base g n c i : Nat} {l : List Ow} (h : W.ownsRow base 136 3 (.slice (some ⟨g, 0, none⟩) n c) n (rowsV owV l)) (hl : l.length = n) (hi : i < n) :
  (W.cell? ⟨g, i * 3, none⟩ = some (.string (l[i]!).call) ∧ W.cell? ⟨g, i * 3 + 1, none⟩ = some (.string (l[i]!).owner) ∧ W.cell? ⟨g, i * 3 + 2, none⟩ = some (.string (l[i]!).off)) ∧
  (W.frozen? ⟨g, i * 3, none⟩ = false ∧ W.frozen? ⟨g, i * 3 + 1, none⟩ = false ∧ W.frozen? ⟨g, i * 3 + 2, none⟩ = false) := by
 have k : ∀ j, j < 3 → W.cell? ⟨g, i * 3 + j, none⟩ = (owV l[i]!)[j]? := fun j hj => by
  rw [h.cellAt (i * 3 + j) (by omega), rowsV_at owV_len l i (by omega) j hj, getElem!_pos l i (by omega)]
 exact ⟨⟨k 0 (by omega), k 1 (by omega), k 2 (by omega)⟩, h.frozenAt _, h.frozenAt _, h.frozenAt _⟩
theorem ow_set {W : World} {base g n c i : Nat} {l : List Ow} (h : W.ownsRow base 136 3 (.slice (some ⟨g, 0, none⟩) n c) n (rowsV owV l)) (hl : l.length = n) (hi : i < n) (j : Nat) (hj : j < 3) (s : ByteArray) (x : Ow) (hx : (owV l[i]!).set j (.string s) = owV x) :
  (W.setCell ⟨g, i * 3 + j, none⟩ (.string s)).ownsRow base 136 3 (.slice (some ⟨g, 0, none⟩) n c) n (rowsV owV (l.set i x)) := by
 have := (h.stored (i * 3 + j) (.string s)).1
 rwa [rowsV_cell owV_len l i (by omega) j hj (.string s) x hx] at this
def chEnd (b : ByteArray) (x : Ow) : Ow × Int := if x.owner = b then (⟨.empty, x.owner, x.off⟩, 0) else (x, 16)
def chAcc (b : ByteArray) (x : Ow) : Ow × Int := if x.off = .empty then (x, 11) else if x.off = b then (⟨x.call, b, .empty⟩, 0) else (x, 16)
def chOff (b t : ByteArray) (x : Ow) : Ow × Int := if x.owner = b then if x.off = .empty then if nameB t = true then if t = b then (x, 1) else (⟨x.call, x.owner, t⟩, 0) else (x, 3) else (x, 11) else (x, 16)
def ChP (r : Ow × Int) (base g n c i : Nat) (l : List Ow) (W : World) (e : Ending) (W' : World) : Prop :=
 e = .returned (.int .i64 r.2) ∧ W'.ownsRow base 136 3 (.slice (some ⟨g, 0, none⟩) n c) n (rowsV owV (if r.2 = 0 then l.set i r.1 else l)) ∧ Below base W W'
set_option maxRecDepth 100000 in
set_option maxHeartbeats 4000000 in
theorem end_cls (b : ByteArray) (B : Nat) (W : World) (base g n c i : Nat) (l : List Ow) (hown : W.ownsRow base 136 3 (.slice (some ⟨g, 0, none⟩) n c) n (rowsV owV l)) (hl : l.length = n) (hi : i < n) (_hB : B < W.heap.size) (hg : W.cell? ⟨B, 0, none⟩ = some (.string b)) :
  Calls Tryz.prog 165 #[.pointer (some ⟨g, i * 3, none⟩), .pointer (some ⟨B, 0, none⟩)] W (ChP (chEnd b l[i]!) base g n c i l W) := by
 obtain ⟨⟨c0, c1, c2⟩, f0, f1, f2⟩ := ow_cells hown hl hi
 have hgb := (hown.lt g rfl)
 have HSt := Lib.hid (fun (V : World) (hb : Below W.heap.size W V) => ow_set (own_below hown hb (Nat.le_refl _)) hl hi 0 (by omega) .empty ⟨.empty, (l[i]!).owner, (l[i]!).off⟩ rfl)
 have HO := Lib.hid hown
 obtain ⟨x, hx⟩ : ∃ x, l[i]! = x := ⟨_, rfl⟩
 rw [hx] at c0 c1 c2 HSt ⊢
 unfold ChP
 by_cases h : x.owner = b
 ·have e1 : (x.owner.toList == b.toList) = true := by rw [ba_beq]; exact decide_eq_true h
  have e2 : (b.toList == x.owner.toList) = true := by rw [ba_beq]; exact decide_eq_true h.symm
  have HR : Hid (chEnd b x = (⟨.empty, x.owner, x.off⟩, 0)) := Lib.hid (by unfold chEnd; rw [if_pos h])
  rw [HR.out]
  clear h hx hown
  go_enter Tryz.func165, Tryz.ntmps165
  go_upto_region 1 with (fail)
  refine wp_region_quiet_below (by kernel_rfl) (by kernel_rfl) ?_
  have k0 := cell_regrown c1
  have k1 := cell_regrown hg
  repeat (go_big_quiet_step (fail))
  refine wpQuiet_nil ?_
  intro _ hw'
  obtain ⟨⟨dq, osq⟩, hw''⟩ := hw'
  subst hw''
  have hbn := below_regrown W dq osq
  have d0 : (Sort.grow (redrawn W dq) osq).cell? ⟨g, i * 3, none⟩ = some (.string x.call) := (hbn.cell (p := ⟨g, i * 3, none⟩) hgb.2).trans c0
  have d1 : (Sort.grow (redrawn W dq) osq).frozen? ⟨g, i * 3, none⟩ = false := (hbn.frozen (p := ⟨g, i * 3, none⟩) hgb.2).trans f0
  have HS2 := Lib.hid (HSt.out _ hbn)
  have HBn := Lib.hid hbn
  generalize Sort.grow (redrawn W dq) osq = V at *
  clear k0 k1 c0 c1 c2 f0 f1 f2 hg
  go_wp2_with fail
  go_ret
  exact ⟨rfl, HS2.out, (HBn.out.mono (by have := hgb.1; have := hgb.2; omega)).setCell hgb.1 _⟩
 ·have e1 : (x.owner.toList == b.toList) = false := by rw [ba_beq]; exact decide_eq_false h
  have e2 : (b.toList == x.owner.toList) = false := by rw [ba_beq]; exact decide_eq_false (fun h2 => h h2.symm)
  have HR : Hid (chEnd b x = (x, 16)) := Lib.hid (by unfold chEnd; rw [if_neg h])
  rw [HR.out]
  clear h hx hown
  go_enter Tryz.func165, Tryz.ntmps165
  go_upto_region 1 with (fail)
  refine wp_region_quiet_below (by kernel_rfl) (by kernel_rfl) ?_
  have k0 := cell_regrown c1
  have k1 := cell_regrown hg
  repeat (go_big_quiet_step (fail))
  refine wpQuiet_nil ?_
  intro _ hw'
  obtain ⟨⟨dq, osq⟩, hw''⟩ := hw'
  subst hw''
  have hbn := below_regrown W dq osq
  have HB := Lib.hid (own_below HO.out hbn (Nat.le_refl _))
  have HBn := Lib.hid hbn
  generalize Sort.grow (redrawn W dq) osq = V at *
  clear k0 k1 c0 c1 c2 f0 f1 f2 hg
  go_wp2_with fail
  go_ret
  exact ⟨rfl, HB.out, HBn.out.mono (by have := hgb.1; have := hgb.2; omega)⟩
theorem set_get {l : List Ow} {i : Nat} (hi : i < l.length) (x : Ow) : (l.set i x)[i]! = x := by
 rw [getElem!_pos _ i (by rw [List.length_set]; exact hi), List.getElem_set_self]
set_option maxRecDepth 100000 in
set_option maxHeartbeats 4000000 in
theorem acc_cls (b : ByteArray) (B : Nat) (W : World) (base g n c i : Nat) (l : List Ow) (hown : W.ownsRow base 136 3 (.slice (some ⟨g, 0, none⟩) n c) n (rowsV owV l)) (hl : l.length = n) (hi : i < n) (hB : B < W.heap.size) (hg : W.cell? ⟨B, 0, none⟩ = some (.string b)) :
  Calls Tryz.prog 163 #[.pointer (some ⟨g, i * 3, none⟩), .pointer (some ⟨B, 0, none⟩)] W (ChP (chAcc b l[i]!) base g n c i l W) := by
 obtain ⟨⟨c0, c1, c2⟩, f0, f1, f2⟩ := ow_cells hown hl hi
 have hgb := (hown.lt g rfl)
 have hbW : base ≤ W.heap.size := by omega
 have HSt := Lib.hid (fun (V : World) (hb : Below W.heap.size W V) => by
  have h1 := ow_set (own_below hown hb (Nat.le_refl _)) hl hi 1 (by omega) b ⟨(l[i]!).call, b, (l[i]!).off⟩ rfl
  have h2 := ow_set h1 (by rw [List.length_set]; exact hl) hi 2 (by omega) .empty ⟨(l[i]!).call, b, .empty⟩ (by rw [set_get (by omega)]; rfl)
  rw [List.set_set] at h2
  exact h2)
 have HO := Lib.hid hown
 obtain ⟨x, hx⟩ : ∃ x, l[i]! = x := ⟨_, rfl⟩
 rw [hx] at c0 c1 c2 HSt ⊢
 unfold ChP
 by_cases h0 : x.off = .empty
 ·have HR : Hid (chAcc b x = (x, 11)) := Lib.hid (by unfold chAcc; rw [if_pos h0])
  rw [HR.out]
  rw [h0] at c2
  clear h0 hx hown hg
  go_enter Tryz.func163, Tryz.ntmps163
  go_wp2_with fail
  go_ret
  exact ⟨rfl, HO.out, Below.refl _ _⟩
 have e0 : x.off.toList.isEmpty = false := by rw [ByteArray.toList_eq]; exact not_empty h0
 by_cases h : x.off = b
 ·have e1 : (x.off.toList == b.toList) = true := by rw [ba_beq]; exact decide_eq_true h
  have e2 : (b.toList == x.off.toList) = true := by rw [ba_beq]; exact decide_eq_true h.symm
  have HR : Hid (chAcc b x = (⟨x.call, b, .empty⟩, 0)) := Lib.hid (by unfold chAcc; rw [if_neg h0, if_pos h])
  rw [HR.out]
  clear h h0 hx hown
  go_enter Tryz.func163, Tryz.ntmps163
  go_upto_region 3 with (fail)
  refine wp_region_quiet_below (by kernel_rfl) (by kernel_rfl) ?_
  have k0 := cell_regrown c2
  have k1 := cell_regrown hg
  repeat (go_big_quiet_step (fail))
  refine wpQuiet_nil ?_
  intro _ hw'
  obtain ⟨⟨dq, osq⟩, hw''⟩ := hw'
  subst hw''
  have hbn := below_regrown W dq osq
  have d1 : (Sort.grow (redrawn W dq) osq).cell? ⟨g, i * 3 + 1, none⟩ = some (.string x.owner) := (hbn.cell (p := ⟨g, i * 3 + 1, none⟩) hgb.2).trans c1
  have d2 : (Sort.grow (redrawn W dq) osq).cell? ⟨g, i * 3 + 2, none⟩ = some (.string x.off) := (hbn.cell (p := ⟨g, i * 3 + 2, none⟩) hgb.2).trans c2
  have d3 : (Sort.grow (redrawn W dq) osq).frozen? ⟨g, i * 3 + 1, none⟩ = false := (hbn.frozen (p := ⟨g, i * 3 + 1, none⟩) hgb.2).trans f1
  have d4 : (Sort.grow (redrawn W dq) osq).frozen? ⟨g, i * 3 + 2, none⟩ = false := (hbn.frozen (p := ⟨g, i * 3 + 2, none⟩) hgb.2).trans f2
  have d5 : (Sort.grow (redrawn W dq) osq).cell? ⟨B, 0, none⟩ = some (.string b) := (hbn.cell (p := ⟨B, 0, none⟩) hB).trans hg
  have HS2 := Lib.hid (HSt.out _ hbn)
  have HBn := Lib.hid hbn
  generalize Sort.grow (redrawn W dq) osq = V at *
  clear k0 k1 c0 c1 c2 f0 f1 f2 hg
  go_wp2_with fail
  go_ret
  exact ⟨rfl, HS2.out, ((HBn.out.mono hbW).setCell hgb.1 _).setCell hgb.1 _⟩
 ·have e1 : (x.off.toList == b.toList) = false := by rw [ba_beq]; exact decide_eq_false h
  have e2 : (b.toList == x.off.toList) = false := by rw [ba_beq]; exact decide_eq_false (fun h2 => h h2.symm)
  have HR : Hid (chAcc b x = (x, 16)) := Lib.hid (by unfold chAcc; rw [if_neg h0, if_neg h])
  rw [HR.out]
  clear h h0 hx hown
  go_enter Tryz.func163, Tryz.ntmps163
  go_upto_region 3 with (fail)
  refine wp_region_quiet_below (by kernel_rfl) (by kernel_rfl) ?_
  have k0 := cell_regrown c2
  have k1 := cell_regrown hg
  repeat (go_big_quiet_step (fail))
  refine wpQuiet_nil ?_
  intro _ hw'
  obtain ⟨⟨dq, osq⟩, hw''⟩ := hw'
  subst hw''
  have hbn := below_regrown W dq osq
  have HB := Lib.hid (own_below HO.out hbn (Nat.le_refl _))
  have HBn := Lib.hid hbn
  generalize Sort.grow (redrawn W dq) osq = V at *
  clear k0 k1 c0 c1 c2 f0 f1 f2 hg
  go_wp2_with fail
  go_ret
  exact ⟨rfl, HB.out, HBn.out.mono hbW⟩
end
end Go.Proofs.YtaebebpldkciiaaGreatDoor
