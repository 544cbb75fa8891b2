/- Package hold: a stack in memory; index, wrong, New. -/
import Derived.Test.YtjiofgfdfljgmaaA1
import Derived.Test.YtjiofgfdfljgmaaCut
import Derived.Test.YtjiofgfdfljgmaaSh
import Derived.Test.YtjiofgfdfljgmaaDelLv
import Derived.Test.YtjiofgfdfljgmaaCloneLv
import Derived.Test.YtjiofgfdfljgmaaMore
import Derived.BigQuiet
import Derived.Deep.QuietTactic
import Derived.StillTailTactics
import Derived.Deep.RegionHeld3
import Derived.Deep.DeepMust
import Derived.IntWalk
namespace Go.Proofs.Ytjiofgfdfljgmaa
open Go.RowKit

/-- A level that is taken: who, how high, since when. -/
abbrev Lv := ByteArray × Int × Int
def lvV (x : Lv) : List Value := [.string x.1, .int .i64 x.2.1, .int .i64 x.2.2]
def lvs (ls : List Lv) : List Value := flatR (fun i => lvV ls[i]!) ls.length
theorem lvs_snoc (ls : List Lv) (x : Lv) : lvs (ls ++ [x]) = lvs ls ++ lvV x := by
  unfold lvs
  rw [List.length_append, List.length_singleton, flatR_succ]
  congr 1
  · unfold flatR
    have : ∀ i ∈ List.range ls.length, lvV (ls ++ [x])[i]! = lvV ls[i]! := fun i hi => by
      have hi : i < ls.length := List.mem_range.1 hi
      rw [getElem!_pos _ i (by simp; omega), getElem!_pos ls i hi, List.getElem_append_left hi]
    rw [List.flatMap_def, List.flatMap_def, List.map_congr_left this]
  · rw [getElem!_pos _ ls.length (by simp), List.getElem_append_right (Nat.le_refl _)]
    simp
theorem lvV_len (x : Lv) : (lvV x).length = 3 := rfl
theorem lvV_one (x : Lv) : ∀ u ∈ lvV x, u.oneCell' = true := fun u hu => by
  simp only [lvV, List.mem_cons, List.not_mem_nil, or_false] at hu
  rcases hu with rfl | rfl | rfl <;> rfl

structure StackAt (g : Nat) (lo hi st now : Int) (v : Value) (ls : List Lv) (w : World) : Prop where
  blk : w.heap[g]? = some (.cells #[.int .i64 lo, .int .i64 hi, .int .i64 st, v, .int .i64 now] 46 (0, 0))
  own : w.ownsRow (g + 1) 39 3 v ls.length (lvs ls)

section
variable {g : Nat} {lo hi st now : Int} {v : Value} {ls : List Lv} {w w' : World}
theorem StackAt.lt (h : StackAt g lo hi st now v ls w) : g < w.heap.size := (Array.getElem?_eq_some_iff.1 h.blk).1
theorem StackAt.cell (h : StackAt g lo hi st now v ls w) (i : Nat) : w.cell? ⟨g, i, none⟩ = #[Value.int .i64 lo, .int .i64 hi, .int .i64 st, v, .int .i64 now][i]? := cell_of_row w g i _ 46 (0, 0) h.blk
theorem StackAt.frozen (h : StackAt g lo hi st now v ls w) (i : Nat) : w.frozen? ⟨g, i, none⟩ = false := frozen_of_row w g i _ 46 h.blk
theorem StackAt.below (h : StackAt g lo hi st now v ls w) (hb : Below w.heap.size w w') : StackAt g lo hi st now v ls w' :=
  ⟨(hb.block _ h.lt).trans h.blk, own_below h.own hb (Nat.le_refl _)⟩
theorem StackAt.drewN (h : StackAt g lo hi st now v ls w) (q : Nat) : StackAt g lo hi st now v ls (w.drewN q) := ⟨h.blk, h.own⟩
theorem StackAt.row {A : Option Addr} {c : Nat} (h : StackAt g lo hi st now (.slice A ls.length c) ls w) : Sl w w.heap.size 3 A ls.length (fun i => lvV ls[i]!) :=
  Sl_flat (k := 3) (row := fun i => lvV ls[i]!) (fun _ _ => rfl) h.own
theorem StackAt.shape (h : StackAt g lo hi st now v ls w) : ∃ A c, v = .slice A ls.length c := own_shape h.own
end

/-- What a change to a stack leaves alone: all blocks but the stack's own two. -/
structure Upd (g : Nat) (v v' : Value) (w w' : World) : Prop where
  below : Below g w w'
  keep : ∀ k, k < w.heap.size → k ≠ g → v.ownBlock ≠ some k → w'.heap[k]? = w.heap[k]?
  own : v'.ownBlock = v.ownBlock ∨ ∃ k, v'.ownBlock = some k ∧ w.heap.size ≤ k
theorem Upd.pre {g : Nat} {v v' : Value} {w w1 w' : World} (hg : g ≤ w.heap.size) (hb : Below w.heap.size w w1) (h : Upd g v v' w1 w') : Upd g v v' w w' :=
  ⟨(hb.mono hg).trans h.below, fun k hk h1 h2 => (h.keep k (Nat.lt_of_lt_of_le hk hb.size) h1 h2).trans (hb.block k hk), h.own.imp id fun ⟨k, h1, h2⟩ => ⟨k, h1, Nat.le_trans hb.size h2⟩⟩
theorem Upd.trans {g : Nat} {v v1 v' : Value} {w w1 w' : World} (h1 : Upd g v v1 w w1) (h2 : Upd g v1 v' w1 w') : Upd g v v' w w' := by
  refine ⟨h1.below.trans h2.below, fun k hk hg hv => ?_, ?_⟩
  · refine (h2.keep k (Nat.lt_of_lt_of_le hk h1.below.size) hg ?_).trans (h1.keep k hk hg hv)
    rcases h1.own with e | ⟨k', e, e'⟩
    · rw [e]; exact hv
    · rw [e]; intro x; injection x with x; omega
  · rcases h2.own with e | ⟨k', e, e'⟩
    · rcases h1.own with e1 | ⟨k1, e1, e1'⟩
      · exact .inl (e.trans e1)
      · exact .inr ⟨k1, e.trans e1, e1'⟩
    · exact .inr ⟨k', e, Nat.le_trans h1.below.size e'⟩
theorem Upd.drewN {g : Nat} {v v' : Value} {w w' : World} (h : Upd g v v' w w') (q : Nat) : Upd g v v' w (w'.drewN q) := ⟨below_drewN h.below q, h.keep, h.own⟩
theorem Upd.congr {g : Nat} {v u v' : Value} {w w' : World} (h : Upd g v v' w w') (e : v.ownBlock = u.ownBlock) : Upd g u v' w w' := ⟨h.below, fun k h1 h2 h3 => h.keep k h1 h2 (by rw [e]; exact h3), by rw [← e]; exact h.own⟩
theorem Upd.refl {g : Nat} {v : Value} (w : World) : Upd g v v w w := ⟨Below.refl _ _, fun _ _ _ _ => rfl, .inl rfl⟩
/-- A store into the stack's own blocks. -/
theorem Upd.cell {g : Nat} {v : Value} {w w' : World} (h : Upd g v v w w') (b i : Nat) (x : Value) (hb : b = g ∨ v.ownBlock = some b) (hg : g ≤ b) : Upd g v v w (w'.setCell ⟨b, i, none⟩ x) :=
  ⟨h.below.setCell (p := ⟨b, i, none⟩) hg x, fun k hk h1 h2 => (heap_setCell_other _ _ _ _ (fun e => by
    have e : k = b := e
    subst e
    rcases hb with hb | hb
    · exact h1 hb
    · exact h2 hb)).trans (h.keep k hk h1 h2), .inl rfl⟩

theorem eg25 : ∀ (args : Array Value) (w : World), (callFunc 25 args).run Try.prog w = .ok (.enter 25 args) w := enters_of Try.func25 (by kernel_rfl) rfl
def isCall (call : ByteArray) (x : Lv) : Bool := x.1.toList == call.toList

set_option maxHeartbeats 400000 in
theorem index1_pred (call : ByteArray) (B : Nat) (w : World) (hB : B < w.heap.size) (hcell : w.cell? ⟨B, 0, none⟩ = some (.string call)) :
    PredBelow Try.prog 25 #[.pointer (some ⟨B, 0, none⟩)] (fun x : Lv => .agg (lvV x).toArray) (isCall call) w := fun W x hb => by
  have hc : W.cell? ⟨B, 0, none⟩ = some (.string call) := (hb.cell (p := ⟨B, 0, none⟩) hB).trans hcell
  have hBW : B < W.heap.size := Nat.lt_of_lt_of_le hB hb.size
  have hne : B ≠ W.heap.size := by omega
  show Calls Try.prog 25 #[.agg #[.string x.1, .int .i64 x.2.1, .int .i64 x.2.2], .pointer (some ⟨B, 0, none⟩)] W _
  go_enter Try.func25, Try.ntmps25
  go_wp2
  go_ret
  exact ⟨rfl, hb.alloc hb.size _⟩

def idxL (ls : List Lv) (call : ByteArray) : Int := if ls.findIdx (isCall call) < ls.length then (ls.findIdx (isCall call) : Int) else -1
theorem idx_from (call : ByteArray) : ∀ (l : List Lv) (i : Nat), Lib.idxByFrom (fun _ y => isCall call y) default l i = if l.findIdx (isCall call) < l.length then ((i + l.findIdx (isCall call) : Nat) : Int) else -1
  | [], i => by simp [Lib.idxByFrom]
  | x :: l, i => by
    rw [Lib.idxByFrom, List.findIdx_cons]
    by_cases h : isCall call x = true
    · simp [h]
    · have h' : isCall call x = false := by simpa using h
      rw [idx_from call l (i + 1)]
      simp only [h', Bool.false_eq_true, if_false, cond_false, List.length_cons]
      by_cases h2 : l.findIdx (isCall call) < l.length
      · rw [if_pos h2, if_pos (by omega)]; omega
      · rw [if_neg h2, if_neg (by omega)]
theorem idxL_eq (l : List Lv) (call : ByteArray) : Lib.idxBy (fun _ y => isCall call y) l default = idxL l call := by
  unfold Lib.idxBy idxL
  rw [idx_from]
  simp
theorem idxL_nil (call : ByteArray) : idxL [] call = -1 := by simp [idxL]
theorem idxL_head (x : Lv) (ls : List Lv) : idxL (x :: ls) x.1 = 0 := by
  have : isCall x.1 x = true := by simp [isCall]
  unfold idxL
  rw [List.findIdx_cons, this]
  simp

set_option maxHeartbeats 1000000 in
theorem index_any {g : Nat} {lo hi st now : Int} {v : Value} {ls : List Lv} {w : World} (h : StackAt g lo hi st now v ls w) (call : ByteArray) :
    Calls Try.prog 18 #[.pointer (some ⟨g, 0, none⟩), .string call] w fun e w' => e = .returned (.int .i64 (idxL ls call)) ∧ Below w.heap.size w w' := by
  obtain ⟨A, c, rfl⟩ := h.shape
  have c3 := h.cell 3
  have hlt := h.lt
  have hne : g ≠ w.heap.size := by omega
  have hcap := own_cap h.own
  unfold maxLen at hcap
  obtain ⟨hn, hc⟩ := hcap
  by_cases h0 : ls.length = 0
  · have hl := List.eq_nil_of_length_eq_zero h0
    subst hl
    simp only [List.length_nil] at c3
    go_enter Try.func18, Try.ntmps18
    go_wp2_with go_in
    go_loop [8] (fun k => k = .int .i64 (0 : Nat)) (fun _ => 0)
    case atStart => rfl
    case round =>
      obtain rfl := hrel
      go_wp2
      go_ret
      exact ⟨rfl, (Below.refl _ w).alloc (Nat.le_refl _) _⟩
  · obtain ⟨b, off, rfl, hb, hr⟩ := h.row (by omega)
    have hcon := AnyQ.slices_IndexFunc Try.l24 3 Try.isAgg39 Try.sizeOf39 lvV (fun _ => rfl) (isCall call) 25 #[.pointer (some ⟨w.heap.size, 0, none⟩)] eg25 b off ls.length c ls (w.alloc (.cells #[.string call] 9))
      (index1_pred call w.heap.size _ (by simp) (by simp)) (Nat.le_refl _) (by omega) (by simp; omega) (fun j hj i v hi => by
        refine Lib.cell?_alloc_some _ ?_
        exact hr j hj i v hi)
    change Calls Try.prog 24 _ _ _ at hcon
    rw [idxL_eq, List.take_of_length_le (Nat.le_refl _)] at hcon
    clear hr
    generalize idxL ls call = r at hcon ⊢
    go_enter Try.func18, Try.ntmps18
    go_wp2_with (go_at_call 24; refine hcon.mono ?_; rintro e w' ⟨rfl, hb'⟩)
    go_ret
    exact ⟨rfl, ((Below.refl _ w).alloc (Nat.le_refl _) _).trans (hb'.mono (by simp))⟩

def wrongB (now t : Int) : Bool := decide (t < now) || decide (200000 < t)
set_option maxHeartbeats 400000 in
theorem wrong_any {g : Nat} {lo hi st now : Int} {v : Value} {ls : List Lv} {w : World} (h : StackAt g lo hi st now v ls w) (t : Int) :
    Calls Try.prog 19 #[.pointer (some ⟨g, 0, none⟩), .int .i64 t] w fun e w' => e = .returned (.bool (wrongB now t)) ∧ w = w' := by
  have c4 := h.cell 4
  by_cases h1 : t < now
  · have hw : wrongB now t = true := by simp [wrongB, h1]
    have HW := Lib.hid hw
    clear hw
    go_enter Try.func19, Try.ntmps19
    go_wp2
    go_ret
    exact ⟨by rw [HW.out]; rfl, rfl⟩
  · by_cases h2 : 200000 < t
    · have hw : wrongB now t = true := by simp [wrongB, h2]
      have HW := Lib.hid hw
      clear hw
      go_enter Try.func19, Try.ntmps19
      go_wp2
      go_ret
      exact ⟨by rw [HW.out]; rfl, rfl⟩
    · have hw : wrongB now t = false := by simp [wrongB]; omega
      have HW := Lib.hid hw
      clear hw
      go_enter Try.func19, Try.ntmps19
      go_wp2
      go_ret
      exact ⟨by rw [HW.out]; rfl, rfl⟩

set_option maxHeartbeats 1000000 in
theorem Check_ok (lo hi st : Int) (w : World) (h0 : 0 ≤ lo) (h1 : lo ≤ hi) (h2 : hi ≤ 60000) (h3 : 100 ≤ st) (h4 : st ≤ 10000) (h5 : (hi - lo) / st + 1 ≤ 32) :
    Calls Try.prog 16 #[.agg #[.int .i64 lo, .int .i64 hi, .int .i64 st]] w fun e w' => e = .returned (.int .i64 0) ∧ Below w.heap.size w w' := by
  have h6 : 0 ≤ (hi - lo) / st := Int.ediv_nonneg (by omega) (by omega)
  go_enter Try.func16, Try.ntmps16
  go_wp2
  go_ret
  exact ⟨rfl, (Below.refl _ w).alloc (Nat.le_refl _) _⟩

set_option maxHeartbeats 1000000 in
theorem New_ok (lo hi st : Int) (w : World) (h0 : 0 ≤ lo) (h1 : lo ≤ hi) (h2 : hi ≤ 60000) (h3 : 100 ≤ st) (h4 : st ≤ 10000) (h5 : (hi - lo) / st + 1 ≤ 32) :
    Calls Try.prog 8 #[.agg #[.int .i64 lo, .int .i64 hi, .int .i64 st]] w fun e w' => ∃ g, w.heap.size ≤ g ∧ e = .returned (.tuple #[.pointer (some ⟨g, 0, none⟩), .int .i64 0]) ∧ StackAt g lo hi st 0 (.slice none 0 0) [] w' ∧ Below w.heap.size w w' := by
  go_enter Try.func8, Try.ntmps8
  go_wp2_with (go_at_call 16; refine (Check_ok lo hi st _ h0 h1 h2 h3 h4 h5).mono ?_; rintro e w' ⟨rfl, hb'⟩; obtain ⟨hc', hf'⟩ := bcell hb')
  go_ret2
  have hz := hb'.size
  simp at hz
  refine ⟨w'.heap.size, by omega, rfl, ⟨heap_alloc_new w' _, World.ownsRow_nil _ _ _ _⟩, (((Below.refl _ w).alloc (Nat.le_refl _) _).trans (hb'.mono (by simp))).alloc (by omega) _⟩
end Go.Proofs.Ytjiofgfdfljgmaa
