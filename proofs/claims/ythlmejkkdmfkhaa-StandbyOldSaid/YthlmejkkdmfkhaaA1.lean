/- Package standby: a pair in memory. -/
import Derived.Test.YthlmejkkdmfkhaaMore
import Derived.Test.YthlmejkkdmfkhaaFlat
import Derived.Test.YthlmejkkdmfkhaaDel
import Derived.Test.YthlmejkkdmfkhaaPl
import Derived.Maps.AppendAt
namespace Go.Proofs.Ythlmejkkdmfkhaa
open Go.RowKit

instance : Inhabited Msg := ⟨⟨0, 0, false, ByteArray.empty⟩⟩
def strsV (l : List ByteArray) : List Value := l.map Value.string
theorem strsV_snoc (l : List ByteArray) (s : ByteArray) : strsV l ++ [.string s] = strsV (l ++ [s]) := by simp [strsV]
def rowS (l : List ByteArray) (i : Nat) : List Value := [.string l[i]!]
theorem rowS_flat (l : List ByteArray) : flatR (rowS l) l.length = strsV l := by
  unfold flatR strsV rowS
  rw [List.flatMap_def, List.map_congr_left (g := fun i => [Value.string l[i]!]) (fun _ _ => rfl)]
  apply List.ext_getElem?
  intro i
  rw [← List.flatMap_def, ← List.map_eq_flatMap]
  by_cases hi : i < l.length
  · simp [hi]
  · simp [hi]
def msgV (m : Msg) : List Value := [.int .i64 m.term, .int .i64 m.num, .bool m.ack, .string m.text]
def msgsV (l : List Msg) : List Value := l.flatMap msgV
def rowM (l : List Msg) (i : Nat) : List Value := msgV l[i]!
theorem msgV_one (m : Msg) : ∀ u ∈ msgV m, u.oneCell' = true := fun u hu => by
  simp only [msgV, List.mem_cons, List.not_mem_nil, or_false] at hu
  rcases hu with rfl | rfl | rfl | rfl <;> rfl
theorem msgsV_one (l : List Msg) : ∀ u ∈ msgsV l, u.oneCell' = true := fun u hu => by
  obtain ⟨m, _, hu⟩ := List.mem_flatMap.1 hu
  exact msgV_one m u hu
theorem msgsV_len : ∀ l : List Msg, (msgsV l).length = l.length * 4
  | [] => rfl
  | m :: l => by
    have := msgsV_len l
    unfold msgsV at *
    rw [List.flatMap_cons, List.length_append, this, List.length_cons]
    show 4 + _ = _
    omega
theorem msgsV_snoc (l : List Msg) (m : Msg) : msgsV l ++ msgV m = msgsV (l ++ [m]) := by simp [msgsV]
theorem msgsV_append (l r : List Msg) : msgsV l ++ msgsV r = msgsV (l ++ r) := by simp [msgsV]
theorem msgsV_get : ∀ (l : List Msg) (i j : Nat), i < l.length → j < 4 → (msgsV l)[i * 4 + j]? = (msgV l[i]!)[j]?
  | [], i, _, h, _ => absurd h (by simp)
  | m :: l, 0, j, _, hj => by
    unfold msgsV
    rw [List.flatMap_cons, List.getElem?_append_left (by show _ < 4; omega)]
    simp
  | m :: l, i + 1, j, h, hj => by
    have := msgsV_get l i j (by simpa using h) hj
    unfold msgsV at *
    rw [List.flatMap_cons, List.getElem?_append_right (by show 4 ≤ _; omega)]
    have e : (i + 1) * 4 + j - (msgV m).length = i * 4 + j := by show _ - 4 = _; omega
    rw [e, this]
    simp
theorem rowM_flat (l : List Msg) : flatR (rowM l) l.length = msgsV l := by
  apply List.ext_getElem?
  intro p
  have h1 := flatR_len (row := rowM l) (k := 4) l.length (fun _ _ => rfl)
  have h2 := msgsV_len l
  by_cases hp : p < l.length * 4
  · have e : p / 4 * 4 + p % 4 = p := Nat.div_add_mod' p 4
    have g1 := flatR_get (row := rowM l) (k := 4) l.length (fun _ _ => rfl) (p / 4) (p % 4) (by omega) (by omega)
    have g2 := msgsV_get l (p / 4) (p % 4) (by omega) (by omega)
    rw [e] at g1 g2
    rw [g1, g2]; rfl
  · rw [List.getElem?_eq_none (by omega), List.getElem?_eq_none (by omega)]
theorem msgsV_erase : ∀ (l : List Msg) (k : Nat), k < l.length → (msgsV l).take (k * 4) ++ (msgsV l).drop ((k + 1) * 4) = msgsV (l.eraseIdx k)
  | [], _, h => absurd h (by simp)
  | m :: l, 0, _ => by
    unfold msgsV
    rw [List.flatMap_cons]
    simp [msgV]
  | m :: l, k + 1, h => by
    have := msgsV_erase l k (by simpa using h)
    rw [List.eraseIdx_cons_succ]
    unfold msgsV at *
    rw [List.flatMap_cons, List.flatMap_cons, ← this]
    have e1 : (k + 1) * 4 = (msgV m).length + k * 4 := by show _ = 4 + _; omega
    have e2 : (k + 1 + 1) * 4 = (msgV m).length + (k + 1) * 4 := by show _ = 4 + _; omega
    rw [e2, e1, List.take_length_add_append, List.drop_length_add_append, List.append_assoc]

structure PairAt (g : Nat) (p : Pr) (vp vs vw : Value) (w : World) : Prop where
  blk : w.heap[g]? = some (.cells #[vp, vs, vw, .int .i64 p.term, .int .i64 p.done, .int .i64 p.ans] 39 (0, 0))
  op : w.ownsRow (g + 1) 9 1 vp p.ps.length (strsV p.ps)
  os : w.ownsRow (g + 1) 9 1 vs p.ss.length (strsV p.ss)
  ow : w.ownsRow (g + 1) 46 4 vw p.ws.length (msgsV p.ws)
  a1 : ApartV vp vs
  a2 : ApartV vp vw
  a3 : ApartV vs vw

/-- The blocks of a pair. -/
def Own (g : Nat) (vp vs vw : Value) (k : Nat) : Prop := k = g ∨ vp.ownBlock = some k ∨ vs.ownBlock = some k ∨ vw.ownBlock = some k
/-- What a change leaves alone: all blocks but those of O; what is then owned was so, or is new. -/
structure Ch (g : Nat) (O O' : Nat → Prop) (w w' : World) : Prop where
  below : Below g w w'
  keep : ∀ k, k < w.heap.size → ¬ O k → w'.heap[k]? = w.heap[k]?
  fresh : ∀ k, O' k → O k ∨ w.heap.size ≤ k

section
variable {g : Nat} {p : Pr} {vp vs vw : Value} {w w' w1 w2 : World} {O O1 O' : Nat → Prop}
theorem Ch.refl (g : Nat) (O : Nat → Prop) (w : World) : Ch g O O w w := ⟨Below.refl _ _, fun _ _ _ => rfl, fun _ h => .inl h⟩
theorem Ch.trans (h1 : Ch g O O1 w w1) (h2 : Ch g O1 O' w1 w2) : Ch g O O' w w2 := by
  refine ⟨h1.below.trans h2.below, fun k hk ho => ?_, fun k hk => ?_⟩
  · refine (h2.keep k (Nat.lt_of_lt_of_le hk h1.below.size) (fun h => ?_)).trans (h1.keep k hk ho)
    rcases h1.fresh k h with h | h
    · exact ho h
    · omega
  · rcases h2.fresh k hk with h | h
    · exact h1.fresh k h
    · exact .inr (Nat.le_trans h1.below.size h)
theorem Ch.of_below (hb : Below w.heap.size w w') (hg : g ≤ w.heap.size) : Ch g O O w w' := ⟨hb.mono hg, fun k hk _ => hb.block k hk, fun _ h => .inl h⟩
theorem Ch.drewN (h : Ch g O O' w w') (q : Nat) : Ch g O O' w (w'.drewN q) := ⟨below_drewN h.below q, h.keep, h.fresh⟩
theorem PairAt.lt (h : PairAt g p vp vs vw w) : g < w.heap.size := (Array.getElem?_eq_some_iff.1 h.blk).1
theorem PairAt.cell (h : PairAt g p vp vs vw w) (i : Nat) : w.cell? ⟨g, i, none⟩ = #[vp, vs, vw, Value.int .i64 p.term, .int .i64 p.done, .int .i64 p.ans][i]? := cell_of_row w g i _ 39 (0, 0) h.blk
theorem PairAt.frozen (h : PairAt g p vp vs vw w) (i : Nat) : w.frozen? ⟨g, i, none⟩ = false := frozen_of_row w g i _ 39 h.blk
theorem PairAt.below (h : PairAt g p vp vs vw w) (hb : Below w.heap.size w w') : PairAt g p vp vs vw w' :=
  ⟨(hb.block _ h.lt).trans h.blk, own_below h.op hb (Nat.le_refl _), own_below h.os hb (Nat.le_refl _), own_below h.ow hb (Nat.le_refl _), h.a1, h.a2, h.a3⟩
theorem PairAt.drewN (h : PairAt g p vp vs vw w) (q : Nat) : PairAt g p vp vs vw (w.drewN q) := ⟨h.blk, h.op, h.os, h.ow, h.a1, h.a2, h.a3⟩
theorem Own.ge (h : PairAt g p vp vs vw w) {k : Nat} (hk : Own g vp vs vw k) : g ≤ k ∧ k < w.heap.size := by
  have := h.lt
  rcases hk with rfl | hk | hk | hk
  · exact ⟨Nat.le_refl _, this⟩
  · have := h.op.lt k hk; omega
  · have := h.os.lt k hk; omega
  · have := h.ow.lt k hk; omega
/-- A store into the pair's own struct. -/
theorem ch_set (g i : Nat) (vp vs vw : Value) (w : World) (x : Value) : Ch g (Own g vp vs vw) (Own g vp vs vw) w (w.setCell ⟨g, i, none⟩ x) :=
  ⟨(Below.refl g w).setCell (p := ⟨g, i, none⟩) (Nat.le_refl _) x, fun k _ hn => heap_setCell_other _ _ _ _ (fun e => hn (.inl e)), fun _ h => .inl h⟩
theorem PairAt.store (h : PairAt g p vp vs vw w) (i : Nat) (x : Value) : (w.setCell ⟨g, i, none⟩ x).heap[g]? = some (.cells (#[vp, vs, vw, .int .i64 p.term, .int .i64 p.done, .int .i64 p.ans].setIfInBounds i x) 39 (0, 0)) :=
  heap_setCell_same w g i _ 39 x h.blk
theorem PairAt.rows (h : PairAt g p vp vs vw w) (i : Nat) (x : Value) : (w.setCell ⟨g, i, none⟩ x).ownsRow (g + 1) 9 1 vp p.ps.length (strsV p.ps) ∧ (w.setCell ⟨g, i, none⟩ x).ownsRow (g + 1) 9 1 vs p.ss.length (strsV p.ss) ∧ (w.setCell ⟨g, i, none⟩ x).ownsRow (g + 1) 46 4 vw p.ws.length (msgsV p.ws) :=
  ⟨h.op.kept (grown_setCell _ _ _ _) (own_ne h.op (Nat.lt_succ_self g)), h.os.kept (grown_setCell _ _ _ _) (own_ne h.os (Nat.lt_succ_self g)), h.ow.kept (grown_setCell _ _ _ _) (own_ne h.ow (Nat.lt_succ_self g))⟩
/-- An int of the pair's struct. -/
theorem PairAt.setDone (h : PairAt g p vp vs vw w) (x : Int) : PairAt g { p with done := x } vp vs vw (w.setCell ⟨g, 4, none⟩ (.int .i64 x)) := by
  obtain ⟨r1, r2, r3⟩ := h.rows 4 (.int .i64 x)
  exact ⟨by simpa using h.store 4 (.int .i64 x), r1, r2, r3, h.a1, h.a2, h.a3⟩
theorem PairAt.setAns (h : PairAt g p vp vs vw w) (x : Int) : PairAt g { p with ans := x } vp vs vw (w.setCell ⟨g, 5, none⟩ (.int .i64 x)) := by
  obtain ⟨r1, r2, r3⟩ := h.rows 5 (.int .i64 x)
  exact ⟨by simpa using h.store 5 (.int .i64 x), r1, r2, r3, h.a1, h.a2, h.a3⟩
theorem PairAt.setTerm (h : PairAt g p vp vs vw w) (x : Int) : PairAt g { p with term := x } vp vs vw (w.setCell ⟨g, 3, none⟩ (.int .i64 x)) := by
  obtain ⟨r1, r2, r3⟩ := h.rows 3 (.int .i64 x)
  exact ⟨by simpa using h.store 3 (.int .i64 x), r1, r2, r3, h.a1, h.a2, h.a3⟩

theorem apart_new {v v' : Value} {N n size : Nat} {base : Nat} {e : TypeId} {xs : List Value} {u : Value} (ha : ApartV u v) (hu : w.ownsRow base e size u n xs) (hv : v'.ownBlock = v.ownBlock ∨ v'.ownBlock = some N) (hN : w.heap.size ≤ N) : ApartV u v' := by
  rcases hv with e | e
  · unfold ApartV at *; rw [e]; exact ha
  · cases hb : u.ownBlock with
    | none => exact .inl hb
    | some k =>
      right; right
      rw [hb, e]
      intro x
      injection x with x
      have := (hu.lt k hb).2
      omega

/-- Another row in the wire's place: what was appended to it, or cut out of it. -/
theorem PairAt.wire (h : PairAt g p vp vs vw w) {o : Obj} {W : World} (hW : W = w ∨ W = w.alloc o) {v' : Value} {l : List Msg} (hown : w1.ownsRow (g + 1) 46 4 v' l.length (msgsV l)) (hg : W.grownBy w1 vw.ownBlock) {N : Nat} (hat : v'.ownBlock = vw.ownBlock ∨ v'.ownBlock = some N) (hN : w.heap.size ≤ N) :
    PairAt g { p with ws := l } vp vs v' (w1.setCell ⟨g, 2, none⟩ v') ∧ Ch g (Own g vp vs vw) (Own g vp vs v') w (w1.setCell ⟨g, 2, none⟩ v') ∧ w1.heap[g]? = some (.cells #[vp, vs, vw, .int .i64 p.term, .int .i64 p.done, .int .i64 p.ans] 39 (0, 0)) := by
  have hlt := h.lt
  have hbW : Below w.heap.size w W := by
    rcases hW with rfl | rfl
    · exact Below.refl _ _
    · exact (Below.refl _ _).alloc (Nat.le_refl _) _
  have hpW := h.below hbW
  have hgn : some g ≠ vw.ownBlock := fun e => by have := (h.ow.lt g e.symm).1; omega
  have hb : w1.heap[g]? = some (.cells #[vp, vs, vw, .int .i64 p.term, .int .i64 p.done, .int .i64 p.ans] 39 (0, 0)) := (hg.block g hpW.lt hgn).trans hpW.blk
  have hs := heap_setCell_same w1 g 2 _ 39 v' hb
  have k1 : w1.ownsRow (g + 1) 9 1 vp p.ps.length (strsV p.ps) := own_apart hpW.op hg rfl h.a2.symm
  have k2 : w1.ownsRow (g + 1) 9 1 vs p.ss.length (strsV p.ss) := own_apart hpW.os hg rfl h.a3.symm
  refine ⟨⟨by simpa using hs, k1.kept (grown_setCell _ _ _ _) (own_ne k1 (Nat.lt_succ_self g)), k2.kept (grown_setCell _ _ _ _) (own_ne k2 (Nat.lt_succ_self g)), hown.kept (grown_setCell _ _ _ _) (own_ne hown (Nat.lt_succ_self g)), h.a1, apart_new h.a2 h.op hat hN, apart_new h.a3 h.os hat hN⟩, ⟨?_, fun k hk hn => ?_, fun k hk => ?_⟩, hb⟩
  · exact ((hbW.mono (Nat.le_of_lt hlt)).grown hg (Nat.le_of_lt hpW.lt) (fun k hk => by have := (h.ow.lt k hk).1; omega)).setCell (p := ⟨g, 2, none⟩) (Nat.le_refl _) _
  · rw [heap_setCell_other _ _ _ _ (fun e => hn (.inl e)), hg.block k (Nat.lt_of_lt_of_le hk hbW.size) (fun e => hn (.inr (.inr (.inr e.symm))))]
    exact hbW.block k hk
  · rcases hk with hk | hk | hk | hk
    · exact .inl (.inl hk)
    · exact .inl (.inr (.inl hk))
    · exact .inl (.inr (.inr (.inl hk)))
    · rcases hat with e | e
      · exact .inl (.inr (.inr (.inr (e.symm.trans hk))))
      · rw [e] at hk
        injection hk with hk
        exact .inr (by omega)
/-- A text behind the primary's. -/
theorem PairAt.addP (h : PairAt g p vp vs vw w) {o : Obj} {W : World} (hW : W = w ∨ W = w.alloc o) {v' : Value} {l : List ByteArray} (hown : w1.ownsRow (g + 1) 9 1 v' l.length (strsV l)) (hg : W.grownBy w1 vp.ownBlock) {N : Nat} (hat : v'.ownBlock = vp.ownBlock ∨ v'.ownBlock = some N) (hN : w.heap.size ≤ N) :
    PairAt g { p with ps := l } v' vs vw (w1.setCell ⟨g, 0, none⟩ v') ∧ Ch g (Own g vp vs vw) (Own g v' vs vw) w (w1.setCell ⟨g, 0, none⟩ v') ∧ w1.heap[g]? = some (.cells #[vp, vs, vw, .int .i64 p.term, .int .i64 p.done, .int .i64 p.ans] 39 (0, 0)) := by
  have hlt := h.lt
  have hbW : Below w.heap.size w W := by
    rcases hW with rfl | rfl
    · exact Below.refl _ _
    · exact (Below.refl _ _).alloc (Nat.le_refl _) _
  have hpW := h.below hbW
  have hgn : some g ≠ vp.ownBlock := fun e => by have := (h.op.lt g e.symm).1; omega
  have hb : w1.heap[g]? = some (.cells #[vp, vs, vw, .int .i64 p.term, .int .i64 p.done, .int .i64 p.ans] 39 (0, 0)) := (hg.block g hpW.lt hgn).trans hpW.blk
  have hs := heap_setCell_same w1 g 0 _ 39 v' hb
  have k2 : w1.ownsRow (g + 1) 9 1 vs p.ss.length (strsV p.ss) := own_apart hpW.os hg rfl h.a1
  have k3 : w1.ownsRow (g + 1) 46 4 vw p.ws.length (msgsV p.ws) := own_apart hpW.ow hg rfl h.a2
  refine ⟨⟨by simpa using hs, hown.kept (grown_setCell _ _ _ _) (own_ne hown (Nat.lt_succ_self g)), k2.kept (grown_setCell _ _ _ _) (own_ne k2 (Nat.lt_succ_self g)), k3.kept (grown_setCell _ _ _ _) (own_ne k3 (Nat.lt_succ_self g)), (apart_new h.a1.symm h.os hat hN).symm, (apart_new h.a2.symm h.ow hat hN).symm, h.a3⟩, ⟨?_, fun k hk hn => ?_, fun k hk => ?_⟩, hb⟩
  · exact ((hbW.mono (Nat.le_of_lt hlt)).grown hg (Nat.le_of_lt hpW.lt) (fun k hk => by have := (h.op.lt k hk).1; omega)).setCell (p := ⟨g, 0, none⟩) (Nat.le_refl _) _
  · rw [heap_setCell_other _ _ _ _ (fun e => hn (.inl e)), hg.block k (Nat.lt_of_lt_of_le hk hbW.size) (fun e => hn (.inr (.inl e.symm)))]
    exact hbW.block k hk
  · rcases hk with hk | hk | hk | hk
    · exact .inl (.inl hk)
    · rcases hat with e | e
      · exact .inl (.inr (.inl (e.symm.trans hk)))
      · rw [e] at hk
        injection hk with hk
        exact .inr (by omega)
    · exact .inl (.inr (.inr (.inl hk)))
    · exact .inl (.inr (.inr (.inr hk)))
/-- A text behind the standby's. -/
theorem PairAt.addS (h : PairAt g p vp vs vw w) {o : Obj} {W : World} (hW : W = w ∨ W = w.alloc o) {v' : Value} {l : List ByteArray} (hown : w1.ownsRow (g + 1) 9 1 v' l.length (strsV l)) (hg : W.grownBy w1 vs.ownBlock) {N : Nat} (hat : v'.ownBlock = vs.ownBlock ∨ v'.ownBlock = some N) (hN : w.heap.size ≤ N) :
    PairAt g { p with ss := l } vp v' vw (w1.setCell ⟨g, 1, none⟩ v') ∧ Ch g (Own g vp vs vw) (Own g vp v' vw) w (w1.setCell ⟨g, 1, none⟩ v') ∧ w1.heap[g]? = some (.cells #[vp, vs, vw, .int .i64 p.term, .int .i64 p.done, .int .i64 p.ans] 39 (0, 0)) := by
  have hlt := h.lt
  have hbW : Below w.heap.size w W := by
    rcases hW with rfl | rfl
    · exact Below.refl _ _
    · exact (Below.refl _ _).alloc (Nat.le_refl _) _
  have hpW := h.below hbW
  have hgn : some g ≠ vs.ownBlock := fun e => by have := (h.os.lt g e.symm).1; omega
  have hb : w1.heap[g]? = some (.cells #[vp, vs, vw, .int .i64 p.term, .int .i64 p.done, .int .i64 p.ans] 39 (0, 0)) := (hg.block g hpW.lt hgn).trans hpW.blk
  have hs := heap_setCell_same w1 g 1 _ 39 v' hb
  have k1 : w1.ownsRow (g + 1) 9 1 vp p.ps.length (strsV p.ps) := own_apart hpW.op hg rfl h.a1.symm
  have k3 : w1.ownsRow (g + 1) 46 4 vw p.ws.length (msgsV p.ws) := own_apart hpW.ow hg rfl h.a3
  refine ⟨⟨by simpa using hs, k1.kept (grown_setCell _ _ _ _) (own_ne k1 (Nat.lt_succ_self g)), hown.kept (grown_setCell _ _ _ _) (own_ne hown (Nat.lt_succ_self g)), k3.kept (grown_setCell _ _ _ _) (own_ne k3 (Nat.lt_succ_self g)), apart_new h.a1 h.op hat hN, h.a2, (apart_new h.a3.symm h.ow hat hN).symm⟩, ⟨?_, fun k hk hn => ?_, fun k hk => ?_⟩, hb⟩
  · exact ((hbW.mono (Nat.le_of_lt hlt)).grown hg (Nat.le_of_lt hpW.lt) (fun k hk => by have := (h.os.lt k hk).1; omega)).setCell (p := ⟨g, 1, none⟩) (Nat.le_refl _) _
  · rw [heap_setCell_other _ _ _ _ (fun e => hn (.inl e)), hg.block k (Nat.lt_of_lt_of_le hk hbW.size) (fun e => hn (.inr (.inr (.inl e.symm))))]
    exact hbW.block k hk
  · rcases hk with hk | hk | hk | hk
    · exact .inl (.inl hk)
    · exact .inl (.inr (.inl hk))
    · rcases hat with e | e
      · exact .inl (.inr (.inr (.inl (e.symm.trans hk))))
      · rw [e] at hk
        injection hk with hk
        exact .inr (by omega)
    · exact .inl (.inr (.inr (.inr hk)))
end
/-- What a call that changes a pair leaves. -/
def Pp (g : Nat) (O : Nat → Prop) (p : Pr) (E : Ending) (w : World) (e : Ending) (w' : World) : Prop := ∃ vp vs vw, e = E ∧ PairAt g p vp vs vw w' ∧ Ch g O (Own g vp vs vw) w w'

section
variable {P : Program}
theorem run_append_empty (w : World) (base : Nat) (t ty e : TypeId) (i : TypeInfo) (size : Nat) (ht : P.underlying t = some (.slice e)) (hi : P.info? e = some i)
    (v : Value) (n : Nat) (xs : List Value) (hown : w.ownsRow base e size v n xs) (c : Nat) : (Builtin.append_ #[t, t] ty #[v, .slice none 0 c]).run P w = .ok v w := by
  rcases hown.2 with ⟨rfl, rfl⟩ | ⟨g, cap, cur, rfl, _, _, hnc, _⟩
  all_goals simp [Builtin.append_, run_underlying ht, sizeOf, typeInfo, hi, Builtin.lenOf, Builtin.firstCells, storeCells, *]
/-- 'append(v, l...)', l nil or not. -/
theorem wpList_append_l {ops : Array Oper} {rest : List Oper} {o : Oper} {a : Act} {w : World} {Q : Exit → Act → World → Prop} (hgd : o.guard = none) (s x : Operand) (t : TypeId)
    (ho : o.op = .call { callee := .builtin .append, args := #[s, x], argTypes := #[t, t] })
    (base : Nat) (e : TypeId) (i : TypeInfo) (z : Value) (size bytes : Nat) (ht : P.underlying t = some (.slice e)) (hi : P.info? e = some i) (hz : i.zero = some z)
    (hsize : i.size = size) (hby : i.bytes = bytes) (hzs : z.cells.size = size) (hsz : 0 < size)
    (v : Value) (n : Nat) (xs : List Value) (hs : a.eval s = v) (hown : w.ownsRow base e size v n xs)
    (A : Option Addr) (m c : Nat) (row : Nat → List Value) (hx : a.eval x = .slice A m c) (B : Nat) (hr : Sl w B size A m row) (hl : ∀ i, i < m → (row i).length = size) (h1 : ∀ u ∈ flatR row m, u.oneCell' = true)
    (hn : n + m ≤ 100000000) (hbytes : bytes ≤ 1000) (hbase : base ≤ w.heap.size) (hnil : A = none → m = 0)
    (h : ∀ v' w', w'.ownsRow base e size v' (n + m) (xs ++ flatR row m) → w.grownBy w' v.ownBlock → (v'.ownBlock = v.ownBlock ∨ v'.ownBlock = some w.heap.size) → wpList P ops Q rest (a.put o.dst v') w') : wpList P ops Q (o :: rest) a w := by
  refine wpList_plain hgd fun K hK => ?_
  have fin : ∀ v' w', (Builtin.append_ #[t, t] o.type #[v, .slice A m c]).run P w = .ok v' w' → w'.ownsRow base e size v' (n + m) (xs ++ flatR row m) → w.grownBy w' v.ownBlock → (v'.ownBlock = v.ownBlock ∨ v'.ownBlock = some w.heap.size) → o.wp P a w K Q := by
    intro v' w' hrun a1 a2 a3
    unfold Oper.wp execOp
    simp only [ho, resolve, invoke, builtin, Sem.run_bind, Sem.run_pure, Result.andThen_ok, List.map_toArray, List.map_cons, List.map_nil, hs, hx, hrun]
    exact hK _ _ (h v' w' a1 a2 a3)
  cases A with
  | none =>
    obtain rfl := hnil rfl
    refine fin v w (run_append_empty w base t o.type e i size ht hi v n xs hown c) ?_ (World.grownBy.refl w _) (.inl rfl)
    simpa [flatR] using hown
  | some ad =>
    have hnews := Sl_news hsz hr rfl hl
    have h63 : n + m ≤ maxLen := by simp only [maxLen]; omega
    have hby2 : (n + m) * bytes ≤ 140737488355328 := Nat.le_trans (Nat.mul_le_mul hn hbytes) (by decide)
    obtain ⟨v', w', hrun, h2, h3, _, h5⟩ := run_append_own_at (P := P) w base t o.type e i z size bytes ht hi hz hsize hby hzs hsz v n xs hown ad m c (flatR row m) (flatR_len m hl) hnews h1 h63 hby2 hbase
    exact fin v' w' hrun h2 h3 h5
end
end Go.Proofs.Ythlmejkkdmfkhaa
