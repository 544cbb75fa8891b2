/- Package season: plain words: a season. -/
import Derived.Test.YtaebebpldkciiaaGreatDoorQS9
import Derived.Test.YtaebebpldkciiaaGreatDoorQS10
import Derived.Test.YtaebebpldkciiaaGreatDoorQS12
namespace Go.Proofs.YtaebebpldkciiaaGreatDoor
open Go.RowKit
structure Se where
 c : Ce
 k : Nat
 s : Nat
 fl : Nat
 a : Nat
 r : Nat
def newS : Se := ⟨newC, 0, 0, 0, 0, 0⟩
section
variable (ks : Nat → ByteArray) (S : Su) (l : List Inp)
def feedS (s : Se) : Se := { s with c := (stepP ks S s.c l[s.k]!).1, k := s.k + 1, a := if (stepP ks S s.c l[s.k]!).2 = 0 then s.a + 1 else s.a, r := if (stepP ks S s.c l[s.k]!).2 = 0 then s.r else s.r + 1 }
def feedN (t : Int) : Nat → Se → Se
 | 0, s => s
 | n + 1, s => if s.k < l.length ∧ (l[s.k]!).time ≤ t then feedN t n (feedS ks S l s) else s
def feedT (t : Int) (s : Se) : Se := feedN ks S l t (l.length - s.k) s
def secS (t : Int) (s : Se) : Se := { s with fl := max s.fl (seenN s.c.fl t), s := s.s + 1 }
def seaP : Nat → Int → Se → Se
 | 0, _, s => s
 | n + 1, t, s => if s.k < l.length ∨ t ≤ endT s.c.fl then seaP n (t + 1) (secS t (feedT ks S l t s)) else s
def runP : Se := seaP ks S l 1000 0 newS
end
structure SeOk (S : Su) (l : List Inp) (s : Se) : Prop where
 ok : CeOk s.c
 k : s.k ≤ l.length
 acc : s.c.acc ≤ s.k
 ar : s.a + s.r = s.k
 safe : Pw (fun _ => True) (SafeTwo S) s.c.fl
 land : Pw LandOne (LandTwo S) s.c.fl
theorem SeOk.new (S : Su) (l : List Inp) : SeOk S l newS := ⟨new_ok, Nat.zero_le _, by decide, rfl, Pw.nil, Pw.nil⟩
theorem SeOk.feed {S : Su} {l : List Inp} {s : Se} (h : SeOk S l s) (hS : SuOk S) (hl : l.length ≤ 16) (ks : Nat → ByteArray) (hk : s.k < l.length) : SeOk S l (feedS ks S l s) := by
 have h20 : s.c.acc < 20 := by have := h.acc; omega
 refine ⟨step_ok h.ok h20 ks _, hk, ?_, ?_, step_safe h.ok ks _ h.safe, step_land hS h.ok ks _ h.land⟩
 ·have := step_acc (S := S) h.ok h20 ks l[s.k]!
  have := h.acc
  show (stepP ks S s.c l[s.k]!).1.acc ≤ s.k + 1
  omega
 ·have := h.ar
  simp only [feedS]
  split <;> omega
theorem SeOk.sec {S : Su} {l : List Inp} {s : Se} (h : SeOk S l s) (t : Int) : SeOk S l (secS t s) := ⟨h.ok, h.k, h.acc, h.ar, h.safe, h.land⟩
theorem feedN_no {ks : Nat → ByteArray} {S : Su} {l : List Inp} {t : Int} {s : Se} (h : ¬ (s.k < l.length ∧ (l[s.k]!).time ≤ t)) : ∀ n, feedN ks S l t n s = s
 | 0 => rfl
 | n + 1 => by unfold feedN; rw [if_neg h]
theorem feedT_step {ks : Nat → ByteArray} {S : Su} {l : List Inp} {t : Int} {s : Se} (h1 : s.k < l.length) (h2 : (l[s.k]!).time ≤ t) : feedT ks S l t s = feedT ks S l t (feedS ks S l s) := by
 unfold feedT
 rw [show l.length - s.k = (l.length - (feedS ks S l s).k) + 1 by simp only [feedS]; omega]
 show (if _ then _ else _) = _
 rw [if_pos ⟨h1, h2⟩]
end Go.Proofs.YtaebebpldkciiaaGreatDoor
