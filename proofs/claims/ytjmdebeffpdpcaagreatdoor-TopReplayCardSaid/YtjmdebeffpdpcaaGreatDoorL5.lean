/- Entries of a log; slices.Equal of equal entries. -/
import Derived.Test.YtjmdebeffpdpcaaGreatDoorL4
import Derived.Test.YtjmdebeffpdpcaaGreatDoorA8
import Derived.Test.YtjmdebeffpdpcaaGreatDoorCloneEn
namespace Go.Proofs.YtjmdebeffpdpcaaGreatDoor
open Go.RowKit
open Go.Lib hiding intOf

theorem drop34 {A : Option Addr} {c : Nat} (n q : Nat) (hq : q ≤ n) (hn : n ≤ c) (hc : c ≤ maxLen) (hnil : A = none → n = 0 ∧ c = 0) : ∃ A2, (∀ W, (Instr.slice 22 (.slice A n c) (some (.int .i64 (q : Int))) none none).run Tryz.prog W = .ok (.slice A2 (n - q) (c - q)) W) ∧
    (A2 = none → A = none) ∧ ∀ (w : World) (B : Nat) (f : Nat → Ent), Sl w B 4 A n (fun i => rowE (f i)) → Sl w B 4 A2 (n - q) (fun i => rowE (f (q + i))) := by
  unfold maxLen at hc
  have h0 : (0 : Int) ≤ (q : Int) := by omega
  have h1 : (q : Int) ≤ (n : Int) := by omega
  have h2 : (n : Int) ≤ (c : Int) := by omega
  have c23 : Tryz.prog.cellsOf 48 = 4 := by kernel_rfl
  cases A with
  | none =>
    obtain ⟨rfl, rfl⟩ := hnil rfl
    obtain rfl : q = 0 := by omega
    refine ⟨none, fun W => ?_, fun _ => rfl, fun w B f _ => fun hh => absurd hh (by omega)⟩
    go_simp
  | some a =>
    refine ⟨if c = q then some a else some (a.add (q * 4)), fun W => ?_, fun h => ?_, fun w B f hs => ?_⟩
    · go_simp
    · split at h <;> cases h
    · intro hp
      obtain ⟨b, off, e, hb, hr⟩ := hs (by omega)
      cases e
      rw [if_neg (by omega)]
      refine ⟨b, off + q * 4, ?_, hb, fun i hi => ?_⟩
      · by_cases hz : q = 0
        · subst hz; simp [Addr.add]
        · have hz4 : ¬ q * 4 = 0 := by omega
          simp [Addr.add, hz4]
      · have := hr (q + i) (by omega)
        rw [show off + q * 4 + i * 4 = off + (q + i) * 4 by omega]
        exact this

theorem flat_drop (l : List Ent) (q : Nat) : flatR (fun i => rowE ((l[q + i]?).getD zeroE)) (l.length - q) = (l.drop q).flatMap rowE := by
  unfold flatR
  have h : (List.range (l.length - q)).map (fun i => (l[q + i]?).getD zeroE) = l.drop q := by
    apply List.ext_getElem
    · simp
    · intro i h1 h2
      simp at h1 h2
      simp [show q + i < l.length by omega]
  rw [← h, List.flatMap_map]

theorem LogA.sl {g c : Nat} {A : Option Addr} {l : List Ent} {W : World} (h : LogA g A c l W) : Sl W W.heap.size 4 A l.length (fun i => rowE ((l[i]?).getD zeroE)) :=
  Sl.of_own h.2 (Nat.le_refl _) fun i hi j v hj => by
    refine rowE_at l i _ ?_ j v hj
    rw [List.getElem?_eq_getElem hi]; rfl

/-- What Entries hands back: a row of the caller's own. -/
def EntP (l : List Ent) (w : World) (y : Ending) (w' : World) : Prop :=
  ∃ A c, y = .returned (.slice A l.length c) ∧ w'.ownsRow w.heap.size 48 4 (.slice A l.length c) l.length (l.flatMap rowE) ∧ Below w.heap.size w w'

set_option maxRecDepth 100000 in
set_option maxHeartbeats 2000000 in
theorem Entries_any {g c : Nat} {A : Option Addr} {l : List Ent} {w : World} (h : LogA g A c l w) (p i : Nat) (hp : p ≤ 1000) (hi : i = min p l.length) (hl : l.length ≤ 1000) :
    Calls Tryz.prog 9 #[.pointer (some ⟨g, 0, none⟩), .int .i64 ((p : Int) + 1)] w (EntP (l.drop i) w) := by
  have hcap := own_cap h.2
  have hnil := own_nil h.2
  obtain ⟨A2, hr, hn2, hsl⟩ := drop34 (A := A) (c := c) l.length i (by omega) hcap.1 hcap.2 hnil
  have hcl := CloneEnt_any A2 (l.length - i) (c - i) (fun k => rowE ((l[i + k]?).getD zeroE)) w (hsl w _ _ h.sl) (fun _ _ => rfl) (fun k _ u hu => by
    simp only [rowE, List.mem_cons, List.mem_nil_iff, or_false] at hu
    rcases hu with rfl | rfl | rfl | rfl <;> rfl) (fun e => by have := hnil (hn2 e); omega) (by unfold maxLen; omega) (by omega)
  rw [flat_drop] at hcl
  have HCl := Lib.hid hcl
  have cg := h.cell
  have hmx : max ((p : Int) + 1) 1 = (p : Int) + 1 := by omega
  have hmi : min (p : Int) (l.length : Int) = (i : Int) := by omega
  have hld : (l.drop i).length = l.length - i := by simp
  have HLd := Lib.hid hld
  have hp0 : (0 : Int) ≤ (p : Int) := by omega
  clear hcl hi hld hsl h hnil
  go_enter Tryz.func9, Tryz.ntmps9
  go_wp2_with (go_at_call 21; refine HCl.out.mono ?_; rintro e w1 ⟨v, rfl, hown, hb⟩)
  go_ret
  have hld := HLd.out
  rw [← hld] at hown
  rcases hown.2 with ⟨rfl, h0⟩ | ⟨b, cp, cur, rfl, _⟩
  · exact ⟨none, 0, by rw [h0]; rfl, by rw [h0] at hown ⊢; exact hown, hb⟩
  · exact ⟨_, cp, rfl, hown, hb⟩
end Go.Proofs.YtjmdebeffpdpcaaGreatDoor
