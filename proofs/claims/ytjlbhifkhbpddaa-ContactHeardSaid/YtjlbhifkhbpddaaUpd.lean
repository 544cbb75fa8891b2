/- What a change to an object with one slice leaves alone. -/
import Derived.Test.YtjlbhifkhbpddaaMem
import Derived.Test.YtjlbhifkhbpddaaMore
namespace Go.Proofs.Ytjlbhifkhbpddaa
open Go.RowKit

/-- What a change to an object leaves alone: all blocks but the object's own two. -/
structure Upd (g : Nat) (v v' : Value) (w w' : World) : Prop where
  below : Below g w w'
  keep : ∀ k, k < w.heap.size → k ≠ g → v.ownBlock ≠ some k → w'.heap[k]? = w.heap[k]?
  own : v'.ownBlock = v.ownBlock ∨ ∃ k, v'.ownBlock = some k ∧ w.heap.size ≤ k
theorem Upd.pre {g : Nat} {v v' : Value} {w w1 w' : World} (hg : g ≤ w.heap.size) (hb : Below w.heap.size w w1) (h : Upd g v v' w1 w') : Upd g v v' w w' :=
  ⟨(hb.mono hg).trans h.below, fun k hk h1 h2 => (h.keep k (Nat.lt_of_lt_of_le hk hb.size) h1 h2).trans (hb.block k hk), h.own.imp id fun ⟨k, h1, h2⟩ => ⟨k, h1, Nat.le_trans hb.size h2⟩⟩
theorem Upd.trans {g : Nat} {v v1 v' : Value} {w w1 w' : World} (h1 : Upd g v v1 w w1) (h2 : Upd g v1 v' w1 w') : Upd g v v' w w' := by
  refine ⟨h1.below.trans h2.below, fun k hk hg hv => ?_, ?_⟩
  · refine (h2.keep k (Nat.lt_of_lt_of_le hk h1.below.size) hg ?_).trans (h1.keep k hk hg hv)
    rcases h1.own with e | ⟨k', e, e'⟩
    · rw [e]; exact hv
    · rw [e]; intro x; injection x with x; omega
  · rcases h2.own with e | ⟨k', e, e'⟩
    · rcases h1.own with e1 | ⟨k1, e1, e1'⟩
      · exact .inl (e.trans e1)
      · exact .inr ⟨k1, e.trans e1, e1'⟩
    · exact .inr ⟨k', e, Nat.le_trans h1.below.size e'⟩
theorem Upd.drewN {g : Nat} {v v' : Value} {w w' : World} (h : Upd g v v' w w') (q : Nat) : Upd g v v' w (w'.drewN q) := ⟨below_drewN h.below q, h.keep, h.own⟩
theorem Upd.congr {g : Nat} {v u v' : Value} {w w' : World} (h : Upd g v v' w w') (e : v.ownBlock = u.ownBlock) : Upd g u v' w w' := ⟨h.below, fun k h1 h2 h3 => h.keep k h1 h2 (by rw [e]; exact h3), by rw [← e]; exact h.own⟩
theorem Upd.refl {g : Nat} {v : Value} (w : World) : Upd g v v w w := ⟨Below.refl _ _, fun _ _ _ _ => rfl, .inl rfl⟩
/-- A store into the object's own blocks. -/
theorem Upd.cell {g : Nat} {v : Value} {w w' : World} (h : Upd g v v w w') (b i : Nat) (x : Value) (hb : b = g ∨ v.ownBlock = some b) (hg : g ≤ b) : Upd g v v w (w'.setCell ⟨b, i, none⟩ x) :=
  ⟨h.below.setCell (p := ⟨b, i, none⟩) hg x, fun k hk h1 h2 => (heap_setCell_other _ _ _ _ (fun e => by
    have e : k = b := e
    subst e
    rcases hb with hb | hb
    · exact h1 hb
    · exact h2 hb)).trans (h.keep k hk h1 h2), .inl rfl⟩

end Go.Proofs.Ytjlbhifkhbpddaa
