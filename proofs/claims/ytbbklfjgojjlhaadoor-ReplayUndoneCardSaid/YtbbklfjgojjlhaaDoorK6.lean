/- The entries of a statement: numbered. -/
import Derived.Test.YtbbklfjgojjlhaaDoorK5
import Derived.Test.YtbbklfjgojjlhaaDoorCloneEn
import Derived.Deep.AppendSrc
import Derived.Test.YtbbklfjgojjlhaaDoorCut
namespace Go.Proofs.YtbbklfjgojjlhaaDoor
open Go.RowKit
open Go.Lib hiding intOf

theorem sliceEn {A : Option Addr} {c : Nat} (n q : Nat) (hq : q ≤ n) (hn : n ≤ c) (hnil : A = none → n = 0 ∧ c = 0) (W : World) : (Instr.slice 23 (.slice A n c) none (some (.int .i64 (q : Int))) none).run Tryd.prog W = .ok (.slice A q c) W := by
  have h0 : (0 : Int) ≤ (q : Int) := by omega
  have h1 : (q : Int) ≤ (c : Int) := by omega
  cases A with
  | none =>
    obtain ⟨rfl, rfl⟩ := hnil rfl
    obtain rfl : q = 0 := by omega
    go_simp
  | some a => go_simp


theorem dropEn {A : Option Addr} {c : Nat} (n q : Nat) (hq : q ≤ n) (hn : n ≤ c) (hc : c ≤ maxLen) (hnil : A = none → n = 0 ∧ c = 0) : ∃ A2, (∀ W, (Instr.slice 23 (.slice A n c) (some (.int .i64 (q : Int))) none none).run Tryd.prog W = .ok (.slice A2 (n - q) (c - q)) W) ∧
    (A2 = none → A = none) ∧ ∀ (w : World) (B : Nat) (f : Nat → Ent), Sl w B 4 A n (fun i => rowE (f i)) → Sl w B 4 A2 (n - q) (fun i => rowE (f (q + i))) := by
  unfold maxLen at hc
  have h0 : (0 : Int) ≤ (q : Int) := by omega
  have h1 : (q : Int) ≤ (n : Int) := by omega
  have h2 : (n : Int) ≤ (c : Int) := by omega
  have c36 : Tryd.prog.cellsOf 36 = 4 := by kernel_rfl
  cases A with
  | none =>
    obtain ⟨rfl, rfl⟩ := hnil rfl
    obtain rfl : q = 0 := by omega
    refine ⟨none, fun W => ?_, fun _ => rfl, fun w B f _ => fun hh => absurd hh (by omega)⟩
    go_simp
  | some a =>
    refine ⟨if c = q then some a else some (a.add (q * 4)), fun W => ?_, fun h => ?_, fun w B f hs => ?_⟩
    · go_simp
    · split at h <;> cases h
    · intro hp
      obtain ⟨b, off, e, hb, hr⟩ := hs (by omega)
      cases e
      rw [if_neg (by omega)]
      refine ⟨b, off + q * 4, ?_, hb, fun i hi => ?_⟩
      · by_cases hz : q = 0
        · subst hz; simp [Addr.add]
        · have hz4 : ¬ q * 4 = 0 := by omega
          simp [Addr.add, hz4]
      · have := hr (q + i) (by omega)
        rw [show off + q * 4 + i * 4 = off + (q + i) * 4 by omega]
        exact this


/-- The entry with its number. -/
def numE (f : Nat → Ent) (i : Nat) : Ent := { f i with num := (i : Int) + 1 }

set_option maxRecDepth 100000 in
set_option maxHeartbeats 2000000 in
theorem numbered_any (A : Option Addr) (n c N : Nat) (f : Nat → Ent) (w : World) (hA : Sl w w.heap.size 4 A n (fun i => rowE (f i))) (hc : n ≤ c) (hcm : c ≤ maxLen) (hnil : A = none → n = 0 ∧ c = 0) (hN : N = min n 12) :
    Calls Tryd.prog 7 #[.slice A n c] w fun e w' => ∃ A5 c5, e = .returned (.slice A5 N c5) ∧ w'.ownsRow w.heap.size 36 4 (.slice A5 N c5) N (flatR (fun i => rowE (numE f i)) N) ∧ Below w.heap.size w w' := by
  unfold maxLen at hcm
  have hNn : N ≤ n := by omega
  have hN12 : N ≤ 12 := by omega
  have hsl := fun W => sliceEn (A := A) (c := c) n N hNn hc hnil W
  have hmin : min (n : Int) 12 = (N : Int) := by omega
  have HCl := Lib.hid (CloneEn_any A N c (fun i => rowE (f i)) w (hA.less hNn) (fun _ _ => rfl) (fun i _ u hu => by
    simp only [rowE, List.mem_cons, List.not_mem_nil, or_false] at hu
    rcases hu with rfl | rfl | rfl | rfl <;> rfl) (fun h => by have := (hnil h).1; omega) (by unfold maxLen; omega) (by omega))
  clear hA hN hnil
  go_enter Tryd.func7, Tryd.ntmps7
  go_wp2_with (go_at_call 15; go_loud (refine HCl.out.mono ?_; rintro e w1 ⟨v1, rfl, ho1, hb1⟩; obtain ⟨A5, c5, rfl⟩ := own_shape ho1))
  have HO1 := Lib.hid ho1
  have HB1 := Lib.hid hb1
  have HCap := Lib.hid (own_cap ho1)
  clear ho1 hb1
  go_loopw [3, 12] (fun _ i wr => ∃ (j : Nat), j ≤ N ∧ i = .int .i64 (j : Int) ∧ wr.ownsRow w.heap.size 36 4 (.slice A5 N c5) N (flatR (fun i => rowE (if i < j then numE f i else f i)) N) ∧ Below w.heap.size w wr) (fun _ i _ => N - (intOf i).toNat)
  case atStart => exact ⟨0, by omega, rfl, HO1.out, HB1.out⟩
  case round =>
    obtain ⟨j, hj, rfl, hO, hbr⟩ := hrel
    have HO := Lib.hid hO
    have HBr := Lib.hid hbr
    clear hO hbr
    by_cases hlt : j < N
    · have hj0 : (0 : Int) ≤ (j : Int) := by omega
      have hjN : (j : Int) < (N : Int) := by omega
      obtain ⟨g0, cap, hv, hg0, hlt0⟩ := HO.out.form (by omega)
      have hA5 : A5 = some ⟨g0, 0, none⟩ := by injection hv
      subst hA5
      have hlen : ∀ i, i < N → (rowE (if i < j then numE f i else f i)).length = 4 := fun i _ => rfl
      have hx : wr.cell? ⟨g0, j * 4, none⟩ = some (.int .i64 (f j).num) := by
        have h1 := HO.out.cellAt (j * 4) (by omega)
        have h2 := flatR_get (k := 4) N hlen j 0 hlt (by decide)
        rw [Nat.add_zero] at h2
        rw [h1, h2, if_neg (by omega)]
        rfl
      have hfr := HO.out.frozenAt (j * 4)
      have hst := HO.out.stored (j * 4) (.int .i64 ((j : Int) + 1))
      have hrow : (flatR (fun i => rowE (if i < j then numE f i else f i)) N).set (j * 4) (.int .i64 ((j : Int) + 1)) = flatR (fun i => rowE (if i < j + 1 then numE f i else f i)) N := by
        have := flatR_set (k := 4) (by decide) hlen j 0 hlt (by decide) (.int .i64 ((j : Int) + 1))
        rw [Nat.add_zero] at this
        rw [this]
        congr 1
        funext x
        by_cases e : x = j
        · subst e
          rw [if_pos rfl, if_neg (by omega), if_pos (by omega)]; rfl
        · rw [if_neg e]
          by_cases e2 : x < j
          · rw [if_pos e2, if_pos (by omega)]
          · rw [if_neg e2, if_neg (by omega)]
      rw [hrow] at hst
      have HSt := Lib.hid hst
      have HB3 := Lib.hid (HBr.out.setCell (p := ⟨g0, j * 4, none⟩) hg0 (.int .i64 ((j : Int) + 1)))
      have hw : IntKind.i64.wrap ((j : Int) + 1) = (j : Int) + 1 := IntWalk.i64_in _ (by omega)
      have hcc := HCap.out.1
      clear hst hrow hlen hv
      go_wp2
      go_roundw
      case rel => exact ⟨j + 1, by omega, by go_num, HSt.out.1, HB3.out⟩
      case measure => simp [intOf]; omega
    · obtain rfl : N = j := by omega
      go_wp2
      go_ret
      refine ⟨A5, c5, rfl, ?_, HBr.out⟩
      have : flatR (fun i => rowE (numE f i)) N = flatR (fun i => rowE (if i < N then numE f i else f i)) N := by
        unfold flatR
        rw [List.flatMap_def, List.flatMap_def]
        congr 1
        refine List.map_congr_left fun i hi => ?_
        rw [if_pos (List.mem_range.1 hi)]
      rw [this]; exact HO.out
end Go.Proofs.YtbbklfjgojjlhaaDoor
