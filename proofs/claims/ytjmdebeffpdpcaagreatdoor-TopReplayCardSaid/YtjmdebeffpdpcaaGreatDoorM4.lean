/- The walk of RecordTorn. -/
import Derived.Test.YtjmdebeffpdpcaaGreatDoorP3
import Derived.Deep.RegionHeld3
import Derived.Deep.Cut
namespace Go.Proofs.YtjmdebeffpdpcaaGreatDoor
open Go.RowKit
open Go.Lib hiding intOf

theorem own_sl {w : World} {base c : Nat} {A : Option Addr} {l : List Ent} (h : w.ownsRow base 48 4 (.slice A l.length c) l.length (l.flatMap rowE)) : Sl w w.heap.size 4 A l.length (fun i => rowE ((l[i]?).getD zeroE)) :=
  Sl.of_own h (Nat.le_refl _) fun i hi j v hj => by
    refine rowE_at l i _ ?_ j v hj
    rw [List.getElem?_eq_getElem hi]; rfl

/-- Entries(1): all entries. -/
theorem Entries_all {g c : Nat} {A : Option Addr} {l : List Ent} {w : World} (h : LogA g A c l w) (hl : l.length ≤ 1000) :
    Calls Tryz.prog 9 #[.pointer (some ⟨g, 0, none⟩), .int .i64 1] w fun y w' => ∃ A c, y = .returned (.slice A l.length c) ∧ l.length ≤ c ∧ c ≤ maxLen ∧ (A = none → l.length = 0 ∧ c = 0) ∧ Sl w' w'.heap.size 4 A l.length (fun k => rowE ((l[k]?).getD zeroE)) ∧ Below w.heap.size w w' := by
  have h1 := Entries_any h 0 0 (by omega) (by omega) hl
  rw [List.drop_zero] at h1
  refine h1.mono ?_
  rintro y w' ⟨A, c, rfl, hown, hb⟩
  have hcap := own_cap hown
  exact ⟨A, c, rfl, hcap.1, hcap.2, own_nil hown, own_sl hown, hb⟩

end Go.Proofs.YtjmdebeffpdpcaaGreatDoor
