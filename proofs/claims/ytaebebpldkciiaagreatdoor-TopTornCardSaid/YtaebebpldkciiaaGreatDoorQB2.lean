/- Inputs in memory; a centre that is given inputs, one after the other. -/
import Derived.Test.YtaebebpldkciiaaGreatDoorQB1
namespace Go.Proofs.YtaebebpldkciiaaGreatDoor
open Go.RowKit
def inV (x : Inp) (h : Hd) : List Value := [.int .i64 x.kind, .int .i64 x.time, .string x.call, .string x.by_, .string x.to_, .slice h.A h.n h.c, .int .i64 x.wake, .int .i64 x.slot, .bool x.lands]
theorem inV_len (x : Inp) (h : Hd) : (inV x h).length = 9 := rfl
structure InB (x : Inp) : Prop where
 call : x.call.size ≤ maxLen
 by_ : x.by_.size ≤ maxLen
 to_ : x.to_.size ≤ maxLen
 tube : x.tube.length ≤ maxLen
def TuN (N : Nat) (h : Hd) (l : Tu) (w : World) : Prop := l.length = h.n ∧ Sl w N 6 h.A h.n (fun i => ndV l[i]!)
theorem TuN.tua {N : Nat} {h : Hd} {l : Tu} {w : World} (k : TuN N h l w) (hN : N ≤ w.heap.size) : TuA h.A h.n l w := ⟨k.1, k.2.more hN⟩
theorem TuN.below {N : Nat} {h : Hd} {l : Tu} {w w' : World} (k : TuN N h l w) (hb : Below N w w') : TuN N h l w' := ⟨k.1, k.2.below hb⟩
structure InsA (N : Nat) (A : Option Addr) (n : Nat) (l : List Inp) (hs : List Hd) (w : World) : Prop where
 ln : l.length = n
 hn : hs.length = n
 row : Sl w N 9 A n (fun i => inV l[i]! hs[i]!)
 tube : ∀ i, i < n → TuN N hs[i]! (l[i]!).tube w
 bd : ∀ i, i < n → InB l[i]!
theorem InsA.below {N n : Nat} {A : Option Addr} {l : List Inp} {hs : List Hd} {w w' : World} (k : InsA N A n l hs w) (hb : Below N w w') : InsA N A n l hs w' :=
 ⟨k.ln, k.hn, k.row.below hb, fun i hi => (k.tube i hi).below hb, k.bd⟩
theorem suE_ok {S : Su} (h : suE S = 0) : SuOk S := by
 unfold suE setE at h
 by_cases h1 : sepE S.lat S.vert ≠ 0
 ·rw [if_pos h1] at h; exact absurd h h1
 rw [if_neg h1] at h
 by_cases h2 : gapsOkB S.g = true
 ·have h3 := gapsOkB_iff.1 h2
  have h4 : 0 ≤ S.lat ∧ S.lat ≤ 1000000 ∧ 0 ≤ S.vert ∧ S.vert ≤ 60000 := by
   unfold sepE at h1
   by_cases h5 : 0 ≤ S.lat ∧ S.lat ≤ 1000000 ∧ 0 ≤ S.vert ∧ S.vert ≤ 60000
   ·exact h5
   ·exfalso; apply h1; simp_all
  exact ⟨⟨h4.1, h4.2.1⟩, h4.2.2, fun i hi => by have := h3 i hi; unfold gapOk at this; exact this⟩
 ·rw [if_neg h2] at h; cases h
theorem takeIn {A : Option Addr} {c : Nat} (n q : Nat) (hq : q ≤ n) (hn : n ≤ c) (hc : c ≤ maxLen) (hnil : A = none → n = 0 ∧ c = 0) : ∃ A2 c2, (∀ W, (Instr.slice 28 (.slice A n c) none (some (.int .i64 (q : Int))) none).run Tryz.prog W = .ok (.slice A2 q c2) W) ∧ (0 < q → A2 = A) := by
 unfold maxLen at hc
 have h0 : (0 : Int) ≤ (q : Int) := by omega
 have h1 : (q : Int) ≤ (n : Int) := by omega
 have h2 : (n : Int) ≤ (c : Int) := by omega
 have h3 : (q : Int) ≤ (c : Int) := by omega
 have c23 : Tryz.prog.cellsOf 62 = 9 := by kernel_rfl
 cases A with
 | none =>
  obtain ⟨rfl, rfl⟩ := hnil rfl
  obtain rfl : q = 0 := by omega
  refine ⟨none, 0, fun W => ?_, fun h => absurd h (by omega)⟩
  go_simp
 | some a =>
  refine ⟨if c = 0 then some a else some (a.add (0 * 9)), c, fun W => ?_, fun hq0 => ?_⟩
  ·go_simp
  ·rw [if_neg (by omega)]; simp [Addr.add]
structure Mid (N N1 : Nat) (w w' : World) : Prop where
 b : Below N w w'
 m : ∀ k, N1 ≤ k → k < w.heap.size → w'.heap[k]? = w.heap[k]?
theorem Mid.of_below {N N1 : Nat} {w w' : World} (h : Below w.heap.size w w') (hN : N ≤ w.heap.size) : Mid N N1 w w' := ⟨h.mono hN, fun k _ hk => h.block k hk⟩
end Go.Proofs.YtaebebpldkciiaaGreatDoor
