/- R.SameState at any two states. -/
import Derived.Test.YtojnojjiblcmcaaDoorD1
namespace Go.Proofs.YtojnojjiblcmcaaDoor
open Go.RowKit

theorem lists_eq {l m : List Rw} (hl : l.length = m.length) (h : ∀ i, i < l.length → l[i]! = m[i]!) : l = m := by
  refine List.ext_getElem hl fun i h1 h2 => ?_
  have := h i h1
  rw [getElem!_pos l i h1, getElem!_pos m i h2] at this
  exact this

set_option maxRecDepth 100000 in
set_option maxHeartbeats 4000000 in
theorem Same_all (A B : Option Addr) (n p c d N : Nat) (l m : List Rw) (w : World) (hA : Sl w N 2 A n (fun i => rwV l[i]!)) (hB : Sl w N 2 B p (fun i => rwV m[i]!)) (hl : l.length = n) (hm : m.length = p) (hn : n ≤ maxLen) (hp : p ≤ maxLen) :
    Calls Tryd.prog 11 #[.slice A n c, .slice B p d] w fun e w' => (∃ r, e = .returned (.bool r) ∧ (r = true ↔ l = m)) ∧ Below w.heap.size w w' := by
  unfold maxLen at hn hp
  have HA := Lib.hid hA
  have HB := Lib.hid hB
  clear hA hB
  by_cases hnp : n = p
  · subst hnp
    have HL := Lib.hid hl
    have HM := Lib.hid hm
    clear hl hm
    go_enter Tryd.func11, Tryd.ntmps11
    go_wp2
    go_loopw [5, 13] (fun _ k wr => ∃ j : Nat, j ≤ n ∧ k = .int .i64 j ∧ Hid (∀ i, i < j → l[i]! = m[i]!) ∧ ∃ q, wr = w.drewN q) (fun _ k _ => n - (intOf k).toNat)
    case atStart => exact ⟨0, by omega, rfl, Lib.hid (fun i hi => absurd hi (by omega)), 0, rfl⟩
    case round =>
      obtain ⟨j, hj, rfl, HE, q, rfl⟩ := hrel
      by_cases hlt : j < n
      · obtain ⟨b, off, rfl, hb, hr⟩ := HA.out (by omega)
        obtain ⟨b2, off2, rfl, hb2, hr2⟩ := HB.out (by omega)
        have o0 : w.cell? ⟨b, off + j * 2, none⟩ = some (.string (l[j]!).1) := hr j hlt 0 _ rfl
        have o1 : w.cell? ⟨b, off + j * 2 + 1, none⟩ = some (.string (l[j]!).2) := hr j hlt 1 _ rfl
        have p0 : w.cell? ⟨b2, off2 + j * 2, none⟩ = some (.string (m[j]!).1) := hr2 j hlt 0 _ rfl
        have p1 : w.cell? ⟨b2, off2 + j * 2 + 1, none⟩ = some (.string (m[j]!).2) := hr2 j hlt 1 _ rfl
        have l1 : (j : Int) < (n : Int) := by omega
        have l0 : (0 : Int) ≤ (j : Int) := by omega
        obtain ⟨x, hx⟩ : ∃ x, l[j]! = x := ⟨_, rfl⟩
        obtain ⟨y, hy⟩ : ∃ y, m[j]! = y := ⟨_, rfl⟩
        rw [hx] at o0 o1
        rw [hy] at p0 p1
        have HXY := Lib.hid (And.intro hx hy)
        clear hr hr2 hx hy
        by_cases hxy : x = y
        · subst hxy
          have HE2 := Lib.hid (show ∀ i, i < j + 1 → l[i]! = m[i]! from fun i hi => by
            by_cases e : i = j
            · subst e; rw [HXY.out.1, HXY.out.2]
            · exact HE.out i (by omega))
          obtain ⟨xk, xv⟩ := x
          simp only at o0 o1 p0 p1
          go_wp2
          go_quiet (fail)
          go_wp2
          go_roundw
          case rel => exact ⟨j + 1, by omega, by go_num, HE2, _, rfl⟩
          case measure => simp [intOf]; omega
        · have HF := Lib.hid (show ¬ l = m from fun e => hxy (by rw [← HXY.out.1, ← HXY.out.2, e]))
          obtain ⟨xk, xv⟩ := x
          obtain ⟨yk, yv⟩ := y
          simp only at o0 o1 p0 p1
          have hne : ¬ (xk.toList = yk.toList ∧ xv.toList = yv.toList) := fun h => hxy (Prod.ext (ba_ext h.1) (ba_ext h.2))
          clear hxy
          by_cases h1 : xk.toList = yk.toList
          · have h2 : ¬ xv.toList = yv.toList := fun h => hne ⟨h1, h⟩
            have e2 : (xv.toList == yv.toList) = false := by simpa using h2
            have e1 : (xk.toList == yk.toList) = true := by simpa using h1
            clear hne
            go_wp2
            go_quiet (fail)
            go_wp2
            go_ret
            exact ⟨⟨false, rfl, by simp [HF.out]⟩, below_drewN (below_drewN (Below.refl _ _) _) _⟩
          · have e1 : (xk.toList == yk.toList) = false := by simpa using h1
            clear hne
            go_wp2
            go_quiet (fail)
            go_wp2
            go_ret
            exact ⟨⟨false, rfl, by simp [HF.out]⟩, below_drewN (below_drewN (Below.refl _ _) _) _⟩
      · have HF := Lib.hid (show l = m from lists_eq (HL.out.trans HM.out.symm) (fun i hi => HE.out i (by have := HL.out; omega)))
        go_wp2
        go_ret
        exact ⟨⟨true, rfl, by simp [HF.out]⟩, below_drewN (Below.refl _ _) _⟩
  · have e1 : ((n : Int) != (p : Int)) = true := by simp; omega
    have HF := Lib.hid (show ¬ l = m from fun e => hnp (by rw [← hl, ← hm, e]))
    clear hnp hl hm
    go_enter Tryd.func11, Tryd.ntmps11
    go_wp2
    go_ret
    exact ⟨⟨false, rfl, by simp [HF.out]⟩, Below.refl _ _⟩
end Go.Proofs.YtojnojjiblcmcaaDoor
