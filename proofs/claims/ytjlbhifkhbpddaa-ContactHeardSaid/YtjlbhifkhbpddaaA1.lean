/- Package contact: a radio in memory; New, Valid, wrong, find. -/
import Derived.Test.YtjlbhifkhbpddaaRw
import Derived.Test.YtjlbhifkhbpddaaStr
import Derived.Test.YtjlbhifkhbpddaaBsfCs
import Derived.Test.YtjlbhifkhbpddaaInsCs
import Derived.Test.YtjlbhifkhbpddaaCloneCs
import Derived.Test.YtjlbhifkhbpddaaName
import Derived.BigQuiet
import Derived.Deep.QuietTactic
import Derived.Deep.DeepMust
import Derived.IntWalk
import Derived.Handy
namespace Go.Proofs.Ytjlbhifkhbpddaa
open Go.RowKit

/-- A contact: who, on which frequency, last heard when. -/
abbrev Cs := ByteArray × Int × Int
def csV (x : Cs) : List Value := [.string x.1, .int .i64 x.2.1, .int .i64 x.2.2]
theorem csV_len (x : Cs) : (csV x).length = 3 := rfl
theorem csV_one (x : Cs) : ∀ u ∈ csV x, u.oneCell' = true := fun u hu => by
  simp only [csV, List.mem_cons, List.not_mem_nil, or_false] at hu
  rcases hu with rfl | rfl | rfl <;> rfl
abbrev css (l : List Cs) : List Value := rowsV csV l

structure RadioAt (g : Nat) (v : Value) (l : List Cs) (w : World) : Prop where
  blk : w.heap[g]? = some (.cells #[v] 41 (0, 0))
  own : w.ownsRow (g + 1) 27 3 v l.length (css l)

section
variable {g : Nat} {v : Value} {l : List Cs} {w w' : World}
theorem RadioAt.lt (h : RadioAt g v l w) : g < w.heap.size := (Array.getElem?_eq_some_iff.1 h.blk).1
theorem RadioAt.cell (h : RadioAt g v l w) : w.cell? ⟨g, 0, none⟩ = some v := cell_of_row w g 0 _ 41 (0, 0) h.blk
theorem RadioAt.frozen (h : RadioAt g v l w) : w.frozen? ⟨g, 0, none⟩ = false := frozen_of_row w g 0 _ 41 h.blk
theorem RadioAt.below (h : RadioAt g v l w) (hb : Below w.heap.size w w') : RadioAt g v l w' :=
  ⟨(hb.block _ h.lt).trans h.blk, own_below h.own hb (Nat.le_refl _)⟩
theorem RadioAt.shape (h : RadioAt g v l w) : ∃ A c, v = .slice A l.length c := own_shape h.own
theorem RadioAt.row {A : Option Addr} {c : Nat} (h : RadioAt g (.slice A l.length c) l w) : Sl w w.heap.size 3 A l.length (fun i => csV l[i]!) := Sl_rows csV_len h.own rfl (by decide)
end

/-- In order by call, each call once. -/
def SortedC (l : List Cs) : Prop := l.Pairwise fun x y => lsS x.1 y.1 = true
/-- How many stand before a call. -/
def lowC (l : List Cs) (t : ByteArray) : Nat := l.countP fun x => lsS x.1 t
def hasC (l : List Cs) (t : ByteArray) : Bool := decide (lowC l t < l.length) && decide (cmpS (l[lowC l t]!).1 t = 0)

theorem low_le (l : List Cs) (t : ByteArray) : lowC l t ≤ l.length := List.countP_le_length
theorem low_sorted (t : ByteArray) : ∀ (l : List Cs), SortedC l → (∀ i, i < lowC l t → lsS (l[i]!).1 t = true) ∧ (∀ i, lowC l t ≤ i → i < l.length → lsS (l[i]!).1 t = false)
  | [], _ => ⟨fun i hi => by simp [lowC] at hi, fun i _ h => by simp at h⟩
  | x :: l, hs => by
    obtain ⟨h1, h2⟩ := List.pairwise_cons.1 hs
    obtain ⟨a, b⟩ := low_sorted t l h2
    by_cases hx : lsS x.1 t = true
    · have e : lowC (x :: l) t = lowC l t + 1 := by unfold lowC; rw [List.countP_cons, if_pos hx]
      rw [e]
      refine ⟨fun i hi => ?_, fun i h3 h4 => ?_⟩
      · cases i with
        | zero => simpa using hx
        | succ i => simpa using a i (by omega)
      · cases i with
        | zero => omega
        | succ i => simpa using b i (by omega) (by simpa using h4)
    · have hall : ∀ y ∈ l, lsS y.1 t = false := fun y hy => by
        rw [Bool.eq_false_iff]; intro h
        exact hx (lsS_tr (h1 y hy) h)
      have e : lowC (x :: l) t = 0 := by
        unfold lowC
        rw [List.countP_eq_zero]
        intro y hy
        rcases List.mem_cons.1 hy with rfl | hy
        · exact hx
        · rw [hall y hy]; simp
      rw [e]
      refine ⟨fun i hi => absurd hi (Nat.not_lt_zero _), fun i _ h4 => ?_⟩
      cases i with
      | zero => simpa using hx
      | succ i =>
        have h5 : i < l.length := by simpa using h4
        have := hall l[i] (List.getElem_mem h5)
        simpa [h5] using this

set_option maxHeartbeats 400000 in
theorem cmp_one (t : ByteArray) (W : World) (x : Cs) : Calls Try.prog 26 #[.agg #[.string x.1, .int .i64 x.2.1, .int .i64 x.2.2], .string t] W fun e w' => e = .returned (.int .i64 (cmpS x.1 t)) ∧ Below W.heap.size W w' := by
  go_enter Try.func26, Try.ntmps26
  go_wp2_with (go_at_call 27; refine (Compare_any _ _ _).mono ?_; rintro e w' ⟨rfl, rfl⟩)
  go_ret
  exact ⟨rfl, (Below.refl _ W).alloc (Nat.le_refl _) _⟩

def FindP (l : List Cs) (t : ByteArray) (w : World) (e : Ending) (w' : World) : Prop := e = .returned (.tuple #[.int .i64 (lowC l t : Int), .bool (hasC l t)]) ∧ Below w.heap.size w w'

set_option maxHeartbeats 1000000 in
theorem find_any {g : Nat} {v : Value} {l : List Cs} {w : World} (h : RadioAt g v l w) (hs : SortedC l) (hn : l.length ≤ 1000) (t : ByteArray) :
    Calls Try.prog 15 #[.pointer (some ⟨g, 0, none⟩), .string t] w (FindP l t w) := by
  obtain ⟨A, c, rfl⟩ := h.shape
  have hc := h.cell
  obtain ⟨h1, h2⟩ := low_sorted t l hs
  have hcon := BsfCs_any A l.length c (lowC l t) (fun i => l[i]!) t (fun x => cmpS x.1 t) w h.row (by omega) (low_le l t) (fun W x _ => cmp_one t W x)
    (fun i hi => cmpS_lt.2 (h1 i hi)) (fun i h3 h4 => by
      have := h2 i h3 h4
      rcases Int.lt_or_le (cmpS (l[i]!).1 t) 0 with h | h
      · rw [cmpS_lt, this] at h; cases h
      · exact h)
  change Calls Try.prog 25 _ _ (FindP l t w) at hcon
  have HC := Lib.hid hcon
  clear hcon h h1 h2
  go_enter Try.func15, Try.ntmps15
  go_wp2_with (go_at_call 25; go_loud (refine HC.out.mono ?_; rintro e w' ⟨rfl, hb⟩))
  go_ret2
  exact ⟨rfl, hb⟩

def validF (f : Int) : Bool := decide (118000 ≤ f) && decide (f ≤ 136975) && decide (f % 25 = 0)
set_option maxHeartbeats 1000000 in
theorem Valid_any (f : Int) (w : World) : Calls Try.prog 6 #[.int .i64 f] w fun e w' => e = .returned (.bool (validF f)) ∧ w = w' := by
  by_cases h1 : 118000 ≤ f
  · by_cases h2 : f ≤ 136975
    · by_cases h3 : f % 25 = 0
      · have HV := Lib.hid (show validF f = true by simp [validF, h1, h2, h3])
        have h3' : (f % 25 == 0) = true := by simp [h3]
        clear h3
        go_enter Try.func6, Try.ntmps6
        go_wp2
        go_ret
        exact ⟨by rw [HV.out]; rfl, rfl⟩
      · have HV := Lib.hid (show validF f = false by simp [validF, h3])
        have h3' : (f % 25 == 0) = false := by simp [h3]
        clear h3
        go_enter Try.func6, Try.ntmps6
        go_wp2
        go_ret
        exact ⟨by rw [HV.out]; rfl, rfl⟩
    · have HV := Lib.hid (show validF f = false by simp [validF, h2])
      go_enter Try.func6, Try.ntmps6
      go_wp2
      go_ret
      exact ⟨by rw [HV.out]; rfl, rfl⟩
  · have HV := Lib.hid (show validF f = false by simp [validF, h1])
    go_enter Try.func6, Try.ntmps6
    go_wp2
    go_ret
    exact ⟨by rw [HV.out]; rfl, rfl⟩

def wrongT (t : Int) : Bool := decide (t < 0) || decide (200000 < t)
set_option maxHeartbeats 400000 in
theorem wrong_any (t : Int) (w : World) : Calls Try.prog 17 #[.int .i64 t] w fun e w' => e = .returned (.bool (wrongT t)) ∧ w = w' := by
  by_cases h1 : t < 0
  · have HW := Lib.hid (show wrongT t = true by simp [wrongT, h1])
    go_enter Try.func17, Try.ntmps17
    go_wp2
    go_ret
    exact ⟨by rw [HW.out]; rfl, rfl⟩
  · by_cases h2 : 200000 < t
    · have HW := Lib.hid (show wrongT t = true by simp [wrongT, h2])
      go_enter Try.func17, Try.ntmps17
      go_wp2
      go_ret
      exact ⟨by rw [HW.out]; rfl, rfl⟩
    · have HW := Lib.hid (show wrongT t = false by simp [wrongT]; omega)
      go_enter Try.func17, Try.ntmps17
      go_wp2
      go_ret
      exact ⟨by rw [HW.out]; rfl, rfl⟩

set_option maxHeartbeats 400000 in
theorem New_any (w : World) : Calls Try.prog 5 #[] w fun e w' => e = .returned (.pointer (some ⟨w.heap.size, 0, none⟩)) ∧ RadioAt w.heap.size (.slice none 0 0) [] w' ∧ Below w.heap.size w w' := by
  go_enter Try.func5, Try.ntmps5
  go_wp2
  go_ret
  exact ⟨rfl, ⟨heap_alloc_new w _, World.ownsRow_nil _ _ _ _⟩, (Below.refl _ _).alloc (Nat.le_refl _) _⟩

set_option maxHeartbeats 1000000 in
theorem List_any {g : Nat} {v : Value} {l : List Cs} {w : World} (h : RadioAt g v l w) (hn : l.length ≤ 1000) :
    Calls Try.prog 10 #[.pointer (some ⟨g, 0, none⟩)] w fun e w' => ∃ A c, e = .returned (.slice A l.length c) ∧ w'.ownsRow w.heap.size 27 3 (.slice A l.length c) l.length (css l) ∧ Below w.heap.size w w' := by
  obtain ⟨A, c, rfl⟩ := h.shape
  have c0 := h.cell
  have hcl := CloneCs_any A l.length c (fun i => csV l[i]!) w h.row (fun _ _ => rfl) (fun i _ u hu => csV_one _ u hu) (fun hA => (own_nil h.own hA).1) (by unfold maxLen; omega) (by omega)
  rw [← rowsV_flat csV_len l] at hcl
  clear h
  go_enter Try.func10, Try.ntmps10
  go_wp2_with (go_at_call 20; refine hcl.mono ?_; rintro e w2 ⟨v2, rfl, hv2, hb2⟩; obtain ⟨A2, c2, rfl⟩ := own_shape hv2)
  go_ret
  exact ⟨_, _, rfl, hv2, hb2⟩
end Go.Proofs.Ytjlbhifkhbpddaa
