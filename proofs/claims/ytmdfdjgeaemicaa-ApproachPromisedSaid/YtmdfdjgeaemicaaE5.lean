/- Package approach: what the search answers (plain law). -/
import Derived.Test.YtmdfdjgeaemicaaE1
namespace Go.Proofs.Ytmdfdjgeaemicaa
open Go.RowKit

/-- An order and its times, of different arrivals, nobody late. -/
structure Good (g : Nat → Int) (its : Nat → It) (N n : Nat) (s : List Nat) (ts : List Int) : Prop where
  ls : s.length = n
  lt : ts.length = n
  nd : s.Nodup
  lo : ∀ i ∈ s, i < N
  ok : ∀ k, k < n → ts[k]! = nextT g (fun k => (its k).wk) (fun q => s[q]!) (fun q => ts[q]!) (its s[k]!).rd (its s[k]!).wk k ∧ ts[k]! ≤ (its s[k]!).sl

theorem snoc_old {α : Type} [Inhabited α] {l : List α} {x : α} {k : Nat} (h : k < l.length) : (l ++ [x])[k]! = l[k]! := by
  simp [List.getElem?_append_left h]
theorem snoc_new {α : Type} [Inhabited α] {l : List α} {x : α} {n : Nat} (h : l.length = n) : (l ++ [x])[n]! = x := by
  subst h; simp
theorem Good.snoc {g : Nat → Int} {its : Nat → It} {N n : Nat} {s : List Nat} {ts : List Int} {i : Nat} (h : Good g its N n s ts) (hi : i < N) (hs : i ∉ s) (hl : ¬ (its i).sl < nxS g its s ts i) : Good g its N (n + 1) (s ++ [i]) (ts ++ [nxS g its s ts i]) where
  ls := by rw [List.length_append, h.ls]; rfl
  lt := by rw [List.length_append, h.lt]; rfl
  nd := by
    rw [List.nodup_append]
    exact ⟨h.nd, by simp, fun a ha b hb e => hs (by rw [List.mem_singleton.1 hb] at e; rwa [e] at ha)⟩
  lo := fun x hx => by
    rcases List.mem_append.1 hx with hx | hx
    · exact h.lo x hx
    · rw [List.mem_singleton.1 hx]; exact hi
  ok := fun k hk => by
    by_cases e : k < n
    · have h1 := h.ok k e
      rw [snoc_old (l := s) (by rw [h.ls]; exact e), snoc_old (l := ts) (by rw [h.lt]; exact e)]
      refine ⟨h1.1.trans (nextT_congr k fun q hq => ⟨(snoc_old (by rw [h.ls]; omega)).symm, (snoc_old (by rw [h.lt]; omega)).symm⟩), h1.2⟩
    · obtain rfl : k = n := by omega
      rw [snoc_new h.ls, snoc_new h.lt]
      refine ⟨?_, by omega⟩
      unfold nxS
      rw [h.ls]
      exact nextT_congr k fun q hq => ⟨(snoc_old (by rw [h.ls]; omega)).symm, (snoc_old (by rw [h.lt]; omega)).symm⟩

theorem srch_good {g : Nat → Int} {its : Nat → It} {N : Nat} : ∀ (f n : Nat), n + f = N → ∀ (s : List Nat) (ts : List Int) (us : List Bool) (o : List Nat), Good g its N n s ts → (∀ i ∈ s, us[i]! = true) → us.length = N → srch g its N f s ts us = some o → ∃ tl, Good g its N N o tl
  | 0, n, hn, s, ts, us, o, hg, _, _, h => by
    obtain rfl : n = N := by omega
    obtain rfl := Option.some.inj h
    exact ⟨ts, hg⟩
  | f + 1, n, hn, s, ts, us, o, hg, hu, hl, h => by
    have hk : ∀ r, r ≤ N → srchK (fun i t => srch g its N f (s ++ [i]) (ts ++ [t]) (us.set i true)) (nxS g its s ts) its us N r = some o → ∃ tl, Good g its N N o tl := by
      intro r
      induction r with
      | zero => intro _ h; cases h
      | succ r ih =>
        intro hr h
        unfold srchK at h
        split at h
        · exact ih (by omega) h
        · rename_i hc
          obtain ⟨i, hi⟩ : ∃ i, N - (r + 1) = i := ⟨_, rfl⟩
          rw [hi] at hc h
          have hiN : i < N := by omega
          have hui : us[i]! = false := by
            cases hh : us[i]! with
            | true => rw [hh] at hc; simp at hc
            | false => rfl
          have hni : i ∉ s := fun hm => by rw [hu i hm] at hui; cases hui
          have hsl : ¬ (its i).sl < nxS g its s ts i := fun hh => hc (by simp [hh])
          cases hf : srch g its N f (s ++ [i]) (ts ++ [nxS g its s ts i]) (us.set i true) with
          | none => rw [hf] at h; exact ih (by omega) h
          | some o' =>
            rw [hf] at h
            obtain rfl := Option.some.inj h
            refine srch_good f (n + 1) (by omega) _ _ _ _ (hg.snoc hiN hni hsl) (fun x hx => ?_) (by rw [List.length_set, hl]) hf
            by_cases e : x = i
            · subst e; rw [getElem!_pos _ x (by rw [List.length_set, hl]; exact hiN), List.getElem_set_self]
            · have hxs : x ∈ s := by
                rcases List.mem_append.1 hx with hx | hx
                · exact hx
                · exact absurd (List.mem_singleton.1 hx) e
              have hxN := hg.lo x hxs
              have h1 := hu x hxs
              rw [getElem!_pos us x (by omega)] at h1
              rw [getElem!_pos _ x (by rw [List.length_set]; omega), List.getElem_set_ne (fun h => e h.symm), h1]
    exact hk N (Nat.le_refl _) h

theorem nodup_le : ∀ (N : Nat) (l : List Nat), l.Nodup → (∀ x ∈ l, x < N) → l.length ≤ N
  | 0, l, _, h => by
    cases l with
    | nil => exact Nat.le_refl _
    | cons a l => have := h a (by simp); omega
  | N + 1, l, hn, h => by
    by_cases hm : N ∈ l
    · have h1 := nodup_le N (l.erase N) (hn.erase N) (fun x hx => by
        have h2 := (hn.mem_erase_iff).1 hx
        have := h x h2.2
        omega)
      rw [List.length_erase_of_mem hm] at h1
      omega
    · have := nodup_le N l hn (fun x hx => by
        have h1 := h x hx
        have h2 : x ≠ N := fun e => hm (e ▸ hx)
        omega)
      omega
theorem all_in {N : Nat} {l : List Nat} (hn : l.Nodup) (h : ∀ x ∈ l, x < N) (hl : l.length = N) {i : Nat} (hi : i < N) : i ∈ l := by
  by_cases hm : i ∈ l
  · exact hm
  · have := nodup_le N (i :: l) (List.nodup_cons.2 ⟨hm, hn⟩) (fun x hx => by
      rcases List.mem_cons.1 hx with rfl | hx
      · exact hi
      · exact h x hx)
    simp at this
    omega

/-- The arrivals in an order. -/
def inOrder (its : Nat → It) (o : List Nat) (k : Nat) : It := its o[k]!
theorem nextT_at_order {g : Nat → Int} {its : Nat → It} {o : List Nat} {ts ts' : Nat → Int} {r w : Int} : ∀ k, (∀ j, j < k → ts j = ts' j) → nextT g (fun k => (inOrder its o k).wk) id ts r w k = nextT g (fun k => (its k).wk) (fun q => o[q]!) ts' r w k
  | 0, _ => rfl
  | k + 1, h => by
    simp only [nextT]
    rw [nextT_at_order k (fun j hj => h j (by omega)), h k (by omega)]
    rfl
theorem Good.times {g : Nat → Int} {its : Nat → It} {N : Nat} {o : List Nat} {tl : List Int} (h : Good g its N N o tl) : ∀ k, k < N → tT g (inOrder its o) k = tl[k]! := by
  intro k
  induction k using Nat.strongRecOn with
  | _ k ih =>
    intro hk
    rw [tT_eq, (h.ok k hk).1]
    exact nextT_at_order k (fun j hj => ih j hj (by omega))

/-- What the law asks of an order that was found. -/
theorem found {g : Nat → Int} {its : Nat → It} {N : Nat} {o : List Nat} (h : srch g its N N [] [] (List.replicate N false) = some o) :
    o.length = N ∧ (∀ k, k < N → o[k]! < N) ∧ (∀ k, k < N → tT g (inOrder its o) k ≤ (inOrder its o k).sl) ∧ ∀ i, i < N → (its i).rd ≤ (its i).sl := by
  obtain ⟨tl, hg⟩ := srch_good N 0 (by omega) [] [] _ _ ⟨rfl, rfl, List.nodup_nil, fun i hi => by simp at hi, fun k hk => by omega⟩ (fun i hi => by simp at hi) (by simp) h
  refine ⟨hg.ls, fun k hk => hg.lo _ ?_, fun k hk => ?_, fun i hi => ?_⟩
  · rw [getElem!_pos o k (by rw [hg.ls]; exact hk)]; exact List.getElem_mem _
  · rw [hg.times k hk]; exact (hg.ok k hk).2
  · have hm := all_in hg.nd hg.lo hg.ls hi
    obtain ⟨k, hk, he⟩ := List.getElem_of_mem hm
    have h1 := hg.ok k (by rw [← hg.ls]; exact hk)
    rw [getElem!_pos o k hk, he] at h1
    have h2 := nextT_ge (g := g) (wk := fun k => (its k).wk) (od := fun q => o[q]!) (ts := fun q => tl[q]!) (r := (its i).rd) (w := (its i).wk) k
    omega
theorem order_code {g : Nat → Int} {its : Nat → It} {N : Nat} {o : List Nat} (hc : checkCode N its g = 0) (h : ∀ k, k < N → o[k]! < N) : checkCode N (inOrder its o) g = 0 := by
  obtain ⟨h1, h2, h3⟩ := checkCode_inv hc
  exact checkCode_ok (by omega) h2 (fun i hi => h3 _ (h i hi))
end Go.Proofs.Ytmdfdjgeaemicaa
