/- logOf. -/
import Derived.Test.YtjmdebeffpdpcaaGreatDoorL3
import Derived.Test.YtjmdebeffpdpcaaGreatDoorCut
import Derived.Lib.MinMax
namespace Go.Proofs.YtjmdebeffpdpcaaGreatDoor
open Go.RowKit
open Go.Lib hiding intOf

def AddAll (g : Nat) (l : List Ent) (w : World) (_ : Ending) (w' : World) : Prop := ∃ l', LogAt g l' w' ∧ LogOk l' ∧ l'.length ≤ l.length + 1 ∧ Below g w w'

theorem Add_sound {g : Nat} {l : List Ent} {w : World} (h : LogAt g l w) (ho : LogOk l) (t : Int) (k x : ByteArray) (hw : Wf (newE l t k x)) (hl : l.length ≤ 400) :
    Calls Tryz.prog 18 #[.pointer (some ⟨g, 0, none⟩), .int .i64 t, .string k, .string x] w fun y w' => (∃ v, y = .returned v) ∧ AddAll g l w y w' := by
  obtain ⟨A, c, h⟩ := h
  by_cases hc : addC l t k x = 0
  · refine (Add_ok h t k x hw hc hl).mono fun y w' hy => ?_
    obtain ⟨A', c', e, h1, h2, _, _⟩ := hy
    exact ⟨⟨_, e⟩, _, ⟨A', c', h1⟩, addC_ok hc ho, by simp, h2⟩
  · refine (Add_no h t k x hw hc hl).mono fun y w' hy => ?_
    exact ⟨⟨_, hy.1⟩, l, ⟨A, c, h.below hy.2⟩, ho, by omega, hy.2.mono (Nat.le_of_lt h.lt)⟩

theorem slice34 {A : Option Addr} {c : Nat} (n q : Nat) (hq : q ≤ n) (hn : n ≤ c) (hnil : A = none → n = 0 ∧ c = 0) (W : World) : (Instr.slice 22 (.slice A n c) none (some (.int .i64 (q : Int))) none).run Tryz.prog W = .ok (.slice A q c) W := by
  have h0 : (0 : Int) ≤ (q : Int) := by omega
  have h1 : (q : Int) ≤ (c : Int) := by omega
  cases A with
  | none =>
    obtain ⟨rfl, rfl⟩ := hnil rfl
    obtain rfl : q = 0 := by omega
    go_simp
  | some a => go_simp

theorem Sl.four {w : World} {B n : Nat} {A : Option Addr} {f : Nat → Ent} (h : Sl w B 4 A n (fun i => rowE (f i))) (i : Nat) (hi : i < n) : ∃ b off, A = some ⟨b, off, none⟩ ∧ b < B ∧
    w.cell? ⟨b, off + i * 4, none⟩ = some (.int .i64 (f i).num) ∧ w.cell? ⟨b, off + i * 4 + 1, none⟩ = some (.int .i64 (f i).time) ∧ w.cell? ⟨b, off + i * 4 + 2, none⟩ = some (.string (f i).kind) ∧ w.cell? ⟨b, off + i * 4 + 3, none⟩ = some (.string (f i).text) := by
  obtain ⟨b, off, e, hb, hr⟩ := h (by omega)
  have h0 := hr i hi 0 _ rfl
  rw [Nat.add_zero] at h0
  exact ⟨b, off, e, hb, h0, hr i hi 1 _ rfl, hr i hi 2 _ rfl, hr i hi 3 _ rfl⟩

end Go.Proofs.YtjmdebeffpdpcaaGreatDoor
