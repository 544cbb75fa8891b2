/- Package record: a log in memory; New, Add. -/
import Derived.Test.YtjmdebeffpdpcaaGreatDoorA3
import Derived.Test.YtjmdebeffpdpcaaGreatDoorDel
import Derived.Deep.RegionLaw
import Derived.Deep.QuietTactic
namespace Go.Proofs.YtjmdebeffpdpcaaGreatDoor
open Go.RowKit
open Go.Lib hiding intOf

def rowE (e : Ent) : List Value := [.int .i64 e.num, .int .i64 e.time, .string e.kind, .string e.text]

theorem rowE_len (l : List Ent) : (l.flatMap rowE).length = l.length * 4 := by
  induction l with
  | nil => rfl
  | cons e l ih => rw [List.flatMap_cons, List.length_append, ih, List.length_cons]; simp [rowE]; omega

theorem rowE_at : ∀ (l : List Ent) (i : Nat) (e : Ent), l[i]? = some e → ∀ j v, (rowE e)[j]? = some v → (l.flatMap rowE)[i * 4 + j]? = some v
  | [], i, e, h, _, _, _ => by simp at h
  | y :: l, 0, e, h, j, v, hj => by
    simp at h
    subst h
    have hjl : j < (rowE y).length := (List.getElem?_eq_some_iff.1 hj).1
    rw [List.flatMap_cons, Nat.zero_mul, Nat.zero_add, List.getElem?_append_left hjl]; exact hj
  | y :: l, i + 1, e, h, j, v, hj => by
    have ih := rowE_at l i e (by simpa using h) j v hj
    rw [List.flatMap_cons, List.getElem?_append_right (by simp [rowE]; omega), show (i + 1) * 4 + j - (rowE y).length = i * 4 + j by simp [rowE]; omega]
    exact ih

/-- Block g is a log; its entries lie in a row of its own, A is the row's address. -/
def LogA (g : Nat) (A : Option Addr) (c : Nat) (l : List Ent) (W : World) : Prop :=
  W.heap[g]? = some (.cells #[.slice A l.length c] 56 (0, 0)) ∧ W.ownsRow (g + 1) 48 4 (.slice A l.length c) l.length (l.flatMap rowE)
def LogAt (g : Nat) (l : List Ent) (W : World) : Prop := ∃ A c, LogA g A c l W

theorem LogA.lt {g c : Nat} {A : Option Addr} {l : List Ent} {W : World} (h : LogA g A c l W) : g < W.heap.size := (Array.getElem?_eq_some_iff.1 h.1).1
theorem LogA.cell {g c : Nat} {A : Option Addr} {l : List Ent} {W : World} (h : LogA g A c l W) : W.cell? ⟨g, 0, none⟩ = some (.slice A l.length c) := cell_of_row _ _ _ _ _ _ h.1
theorem LogA.frozen {g c : Nat} {A : Option Addr} {l : List Ent} {W : World} (h : LogA g A c l W) : W.frozen? ⟨g, 0, none⟩ = false := frozen_of_row _ _ _ _ _ h.1
theorem LogA.below {g c : Nat} {A : Option Addr} {l : List Ent} {W W' : World} (h : LogA g A c l W) (hb : Below W.heap.size W W') : LogA g A c l W' :=
  ⟨(hb.block _ h.lt).trans h.1, own_below h.2 hb (Nat.le_refl _)⟩
theorem LogA.drewN {g c : Nat} {A : Option Addr} {l : List Ent} {W : World} (h : LogA g A c l W) (q : Nat) : LogA g A c l (W.drewN q) := h
theorem LogAt.below {g : Nat} {l : List Ent} {W W' : World} (h : LogAt g l W) (hb : Below W.heap.size W W') : LogAt g l W' := by
  obtain ⟨A, c, h⟩ := h
  exact ⟨A, c, h.below hb⟩
/-- An entry of a log, cell by cell. -/
theorem LogA.ent {g c : Nat} {A : Option Addr} {l : List Ent} {W : World} (h : LogA g A c l W) {i : Nat} {e : Ent} (hi : l[i]? = some e) :
    ∃ b, A = some ⟨b, 0, none⟩ ∧ g < b ∧ b < W.heap.size ∧ W.cell? ⟨b, i * 4, none⟩ = some (.int .i64 e.num) ∧ W.cell? ⟨b, i * 4 + 1, none⟩ = some (.int .i64 e.time) ∧ W.cell? ⟨b, i * 4 + 2, none⟩ = some (.string e.kind) ∧ W.cell? ⟨b, i * 4 + 3, none⟩ = some (.string e.text) := by
  have hlt : i < l.length := (List.getElem?_eq_some_iff.1 hi).1
  obtain ⟨b, cap, hv, hb, hbl⟩ := h.2.form (by omega)
  have hA : A = some ⟨b, 0, none⟩ := by injection hv
  subst hA
  have key : ∀ j v, (rowE e)[j]? = some v → W.cell? ⟨b, i * 4 + j, none⟩ = some v := fun j v hj => by
    have := h.2.cells (g := b) rfl (i * 4 + j) v (rowE_at l i e hi j v hj)
    rwa [Addr.add_mid, Nat.zero_add] at this
  exact ⟨b, rfl, by omega, hbl, key 0 _ rfl, key 1 _ rfl, key 2 _ rfl, key 3 _ rfl⟩

theorem New_any (w : World) : Calls Tryz.prog 16 #[] w fun x w' => x = .returned (.pointer (some ⟨w.heap.size, 0, none⟩)) ∧ LogAt w.heap.size [] w' ∧ Below w.heap.size w w' := by
  go_enter Tryz.func16, Tryz.ntmps16
  go_wp2
  go_ret
  exact ⟨rfl, ⟨_, _, heap_alloc_new w _, World.ownsRow_nil _ _ _ _⟩, (Below.refl _ _).alloc (Nat.le_refl _) _⟩

/-- What does not belong to the log lies as it lay. -/
def OffLog (g : Nat) (A : Option Addr) (w w' : World) : Prop := ∀ k, k < w.heap.size → k ≠ g → (∀ a, A = some a → a.block ≠ k) → w'.heap[k]? = w.heap[k]?

def lastT (l : List Ent) : Int := (l[l.length - 1]?.map (·.time)).getD 0
def newE (l : List Ent) (t : Int) (k x : ByteArray) : Ent := ⟨(l.length : Int) + 1, t, k, x⟩
/-- The error of Add. -/
def addC (l : List Ent) (t : Int) (k x : ByteArray) : Int := if chk (newE l t k x) ≠ 0 then chk (newE l t k x) else if 0 < l.length ∧ t < lastT l then 12 else 0

theorem ent_info : (Tryz.prog.info? 48).map (fun i => (i.zero, i.size, i.bytes)) = some (some (.agg #[.int .i64 0, .int .i64 0, .string ByteArray.empty, .string ByteArray.empty]), 4, 48) := by kernel_rfl
end Go.Proofs.YtjmdebeffpdpcaaGreatDoor
