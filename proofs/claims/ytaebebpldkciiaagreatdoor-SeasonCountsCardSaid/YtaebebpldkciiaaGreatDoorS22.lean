/- SeasonCounts: plain: every input is fed, and the accepted ones are counted. -/
import Derived.Test.YtaebebpldkciiaaGreatDoorS13
namespace Go.Proofs.YtaebebpldkciiaaGreatDoor

/-- The centre and the number of accepted inputs behind the first k inputs. -/
def trk (ks : Nat → ByteArray) (S : Su) (l : List Inp) : Nat → Ce × Nat
  | 0 => (newC, 0)
  | k + 1 => ((stepP ks S (trk ks S l k).1 l[k]!).1, if (stepP ks S (trk ks S l k).1 l[k]!).2 = 0 then (trk ks S l k).2 + 1 else (trk ks S l k).2)
theorem trk_le (ks : Nat → ByteArray) (S : Su) (l : List Inp) : ∀ k, (trk ks S l k).2 ≤ k
  | 0 => Nat.le_refl _
  | k + 1 => by
    have := trk_le ks S l k
    show (if (stepP ks S (trk ks S l k).1 l[k]!).2 = 0 then (trk ks S l k).2 + 1 else (trk ks S l k).2) ≤ k + 1
    split <;> omega
section
variable {ks : Nat → ByteArray} {S : Su} {l : List Inp}
structure SeT (ks : Nat → ByteArray) (S : Su) (l : List Inp) (s : Se) : Prop where
  c : s.c = (trk ks S l s.k).1
  a : s.a = (trk ks S l s.k).2
  ar : s.a + s.r = s.k
theorem SeT.feed {s : Se} (h : SeT ks S l s) : SeT ks S l (feedS ks S l s) := by
  obtain ⟨c, a, ar⟩ := h
  refine ⟨?_, ?_, ?_⟩
  · show (stepP ks S s.c l[s.k]!).1 = (stepP ks S (trk ks S l s.k).1 l[s.k]!).1
    rw [c]
  · show (if (stepP ks S s.c l[s.k]!).2 = 0 then s.a + 1 else s.a) = (if (stepP ks S (trk ks S l s.k).1 l[s.k]!).2 = 0 then (trk ks S l s.k).2 + 1 else (trk ks S l s.k).2)
    rw [c, a]
  · show (if (stepP ks S s.c l[s.k]!).2 = 0 then s.a + 1 else s.a) + (if (stepP ks S s.c l[s.k]!).2 = 0 then s.r else s.r + 1) = s.k + 1
    split <;> omega
theorem SeT.feedN {t : Int} : ∀ (n : Nat) {s : Se}, SeT ks S l s → SeT ks S l (feedN ks S l t n s)
  | 0, _, h => h
  | n + 1, s, h => by
    unfold Proofs.YtaebebpldkciiaaGreatDoor.feedN
    split
    · exact SeT.feedN n h.feed
    · exact h
theorem feedN_all {t : Int} (ht : ∀ i, i < l.length → (l[i]!).time ≤ t) : ∀ (n : Nat) (s : Se), l.length ≤ s.k + n → s.k ≤ l.length → (feedN ks S l t n s).k = l.length
  | 0, s, h1, h2 => by
    show s.k = l.length
    omega
  | n + 1, s, h1, h2 => by
    unfold feedN
    split
    · rename_i h
      exact feedN_all ht n (feedS ks S l s) (by show l.length ≤ s.k + 1 + n; omega) (by show s.k + 1 ≤ l.length; omega)
    · rename_i h
      by_cases h3 : s.k < l.length
      · exact absurd ⟨h3, ht _ h3⟩ h
      · omega
theorem feedN_le {t : Int} : ∀ (n : Nat) (s : Se), s.k ≤ l.length → (feedN ks S l t n s).k ≤ l.length
  | 0, s, h => h
  | n + 1, s, h => by
    unfold feedN
    split
    · rename_i h1
      exact feedN_le n (feedS ks S l s) (by show s.k + 1 ≤ l.length; omega)
    · exact h
theorem SeT.sea : ∀ (n : Nat) {t : Int} {s : Se}, SeT ks S l s → SeT ks S l (seaP ks S l n t s)
  | 0, _, _, h => h
  | n + 1, t, s, h => by
    unfold seaP
    split
    · refine SeT.sea n ?_
      have h1 : SeT ks S l (feedT ks S l t s) := h.feedN _
      exact ⟨h1.c, h1.a, h1.ar⟩
    · exact h
theorem sea_all (h3 : ∀ i, i < l.length → (l[i]!).time ≤ 300) : ∀ (n t : Nat) (s : Se), n + t = 1000 → s.k ≤ l.length → (t ≤ 300 ∨ s.k = l.length) → (seaP ks S l n (t : Int) s).k = l.length
  | 0, t, s, hn, hk, ht => by
    show s.k = l.length
    omega
  | n + 1, t, s, hn, hk, ht => by
    unfold seaP
    split
    · have e : ((t : Int) + 1) = ((t + 1 : Nat) : Int) := by omega
      rw [e]
      have hf : (feedT ks S l (t : Int) s).k ≤ l.length := feedN_le _ s hk
      refine sea_all h3 n (t + 1) _ (by omega) hf ?_
      by_cases h4 : t + 1 ≤ 300
      · exact .inl h4
      · refine .inr ?_
        show (feedT ks S l (t : Int) s).k = l.length
        rcases ht with ht | ht
        · exact feedN_all (fun i hi => by have := h3 i hi; omega) _ s (by omega) hk
        · unfold feedT
          rw [feedN_no (by omega)]
          exact ht
    · rename_i h
      omega
theorem runP_count (h3 : ∀ i, i < l.length → (l[i]!).time ≤ 300) : (runP ks S l).a = (trk ks S l l.length).2 ∧ (runP ks S l).a + (runP ks S l).r = l.length := by
  have h1 : SeT ks S l (runP ks S l) := SeT.sea 1000 (s := newS) ⟨rfl, rfl, rfl⟩
  have h2 : (runP ks S l).k = l.length := sea_all h3 1000 0 newS rfl (Nat.zero_le _) (.inl (by decide))
  exact ⟨by rw [h1.a, h2], by rw [h1.ar, h2]⟩
end
end Go.Proofs.YtaebebpldkciiaaGreatDoor
