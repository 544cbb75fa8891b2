/- TopPromise, plain law: arrivals that a centre gave times land at these times. -/
import Derived.Test.YtaebebpldkciiaaGreatDoorB4
import Derived.Test.YtaebebpldkciiaaGreatDoorZP2
namespace Go.Proofs.YtaebebpldkciiaaGreatDoor
open Go.RowKit
theorem nextT_id {g : Nat → Int} {wk : Nat → Int} {ts : Nat → Int} {r w : Int} : ∀ k, (∀ j, j < k → ts j + g ((wk j).toNat * 4 + w.toNat) ≤ r) → nextT g wk id ts r w k = r
 | 0, _ => rfl
 | k + 1, h => by
  have h1 := nextT_id k (fun j hj => h j (by omega))
  have h2 := h k (by omega)
  simp only [nextT, id]
  rw [h1]
  omega
theorem tT_rd {g : Nat → Int} {its : Nat → It} {n : Nat} (hs : ∀ i j, i < j → j < n → (its i).rd + g ((its i).wk.toNat * 4 + (its j).wk.toNat) ≤ (its j).rd) : ∀ k, k < n → tT g its k = (its k).rd := by
 intro k
 induction k using Nat.strongRecOn with
 | _ k ih =>
  intro hk
  rw [tT_eq]
  refine nextT_id k fun j hj => ?_
  rw [ih j hj (by omega)]
  exact hs j k hj hk
def itF (f : Fl) : It := ⟨f.call, f.wake, f.land, f.slot⟩
theorem itF_ok {f : Fl} (h : FlOk f) : (itF f).ok := ⟨h.wk.1, h.wk.2, h.land.1, h.land.2, h.sl.1, h.sl.2⟩
def vaF (f : Fl) : Va := if h : (itF f).ok then ⟨itF f, h⟩ else default
theorem vaF_ok {f : Fl} (h : FlOk f) : (vaF f).1 = itF f := by unfold vaF; rw [dif_pos (itF_ok h)]
def arrL (fl : List Fl) : List Va := (fl.filter (·.lands)).map vaF
theorem arrL_len (fl : List Fl) : (arrL fl).length ≤ fl.length := by unfold arrL; rw [List.length_map]; exact List.length_filter_le _ _
theorem arrL_take {fl : List Fl} {j : Nat} (hj : j < fl.length) : arrL (fl.take (j + 1)) = if fl[j]!.lands then arrL (fl.take j) ++ [vaF fl[j]!] else arrL (fl.take j) := by
 unfold arrL
 rw [List.take_succ_eq_append_getElem hj, List.filter_append, List.map_append, getElem!_pos fl j hj]
 by_cases h : fl[j].lands = true
 ·simp [h]
 ·simp [h]
theorem fl_same {c : Ce} (hc : CeOk c) {f g : Fl} (hf : f ∈ c.fl) (hg : g ∈ c.fl) (h : f.call = g.call) : f = g := by
 obtain ⟨i, hi, rfl⟩ := List.mem_iff_getElem.1 hf
 obtain ⟨j, hj, rfl⟩ := List.mem_iff_getElem.1 hg
 have hl := hc.len
 have h1 := congrArg (fun l => l[i]?) hc.calls
 have h2 := congrArg (fun l => l[j]?) hc.calls
 simp only [List.getElem?_map] at h1 h2
 rw [List.getElem?_eq_getElem hi, List.getElem?_eq_getElem (by omega)] at h1
 rw [List.getElem?_eq_getElem hj, List.getElem?_eq_getElem (by omega)] at h2
 simp only [Option.map_some, Option.some.injEq] at h1 h2
 have e : c.ow[i].call = c.ow[j].call := by rw [← h1, ← h2, h]
 have hpw := List.pairwise_iff_getElem.1 hc.ow.pw
 rcases Nat.lt_trichotomy i j with h3 | h3 | h3
 ·have h4 : lsS _ _ = true := hpw i j (by omega) (by omega) h3
  rw [e, lsS_irr] at h4
  cases h4
 ·subst h3; rfl
 ·have h4 : lsS _ _ = true := hpw j i (by omega) (by omega) h3
  rw [e, lsS_irr] at h4
  cases h4
theorem land_gap {S : Su} (hS : SuOk S) {c : Ce} (hc : CeOk c) (hp : Pw LandOne (LandTwo S) c.fl) {x y : Va} (hx : x ∈ arrL c.fl) (hy : y ∈ arrL c.fl) (h : x.1.rd < y.1.rd) :
  x.1.rd + S.g (x.1.wk.toNat * 4 + y.1.wk.toNat) ≤ y.1.rd := by
 unfold arrL at hx hy
 obtain ⟨f, hf, rfl⟩ := List.mem_map.1 hx
 obtain ⟨g, hg, rfl⟩ := List.mem_map.1 hy
 obtain ⟨hf, hfl⟩ := List.mem_filter.1 hf
 obtain ⟨hg, hgl⟩ := List.mem_filter.1 hg
 have of := hc.fl f hf
 have og := hc.fl g hg
 rw [vaF_ok of, vaF_ok og] at h ⊢
 have hn : f.call ≠ g.call := fun e => by have := fl_same hc hf hg e; subst this; exact absurd h (by omega)
 have h2 := hp.t f hf g hg hn hfl hgl f.land g.land (.inl rfl) (.inl rfl)
 unfold nearU at h2
 simp only [itF] at h ⊢
 have w1 := of.wk
 have w2 := og.wk
 have g1 := hS.g (4 * g.wake.toNat + f.wake.toNat) (by omega)
 rw [decide_eq_true (show f.land - g.land < S.g (4 * g.wake.toNat + f.wake.toNat) by omega), Bool.true_and, decide_eq_false_iff_not] at h2
 rw [show f.wake.toNat * 4 + g.wake.toNat = 4 * f.wake.toNat + g.wake.toNat by omega]
 omega
theorem land_slot {S : Su} {c : Ce} (hc : CeOk c) (hp : Pw LandOne (LandTwo S) c.fl) {x : Va} (hx : x ∈ arrL c.fl) : x.1.rd ≤ x.1.sl := by
 unfold arrL at hx
 obtain ⟨f, hf, rfl⟩ := List.mem_map.1 hx
 obtain ⟨hf, hfl⟩ := List.mem_filter.1 hf
 rw [vaF_ok (hc.fl f hf)]
 exact ((hp.o f hf).l1 hfl).2
structure Prom (S : Su) (l : List Va) : Prop where
 code : checkCode l.length (vi l) S.g = 0
 at_ : ∀ k, k < l.length → tT S.g (vi l) k = (vi l k).rd
 slot : ∀ k, k < l.length → tT S.g (vi l) k ≤ (vi l k).sl
theorem prom_of {S : Su} (hS : SuOk S) {c : Ce} (hc : CeOk c) (hp : Pw LandOne (LandTwo S) c.fl) {s : List Va} (hs : s.Perm (arrL c.fl)) (hn : s.length ≤ 32) (hup : ∀ k, k + 1 < s.length → (vi s k).rd < (vi s (k + 1)).rd) : Prom S s := by
 have hlt : ∀ i j, i < j → j < s.length → (vi s i).rd < (vi s j).rd := fun i j => by
  induction j with
  | zero => intro h; omega
  | succ j ih =>
   intro h1 h2
   have h3 := hup j h2
   rcases Nat.lt_or_ge i j with h | h
   ·have := ih h (by omega); omega
   ·obtain rfl : i = j := by omega
    exact h3
 have hm : ∀ k, k < s.length → s[k]! ∈ arrL c.fl := fun k hk => by rw [getElem!_pos s k hk]; exact hs.mem_iff.1 (List.getElem_mem hk)
 have hat : ∀ k, k < s.length → tT S.g (vi s) k = (vi s k).rd := tT_rd fun i j hij hj => land_gap hS hc hp (hm i (by omega)) (hm j hj) (hlt i j hij hj)
 refine ⟨checkCode_ok (by omega) (fun i hi => hS.g i hi) fun i _ => vi_ok s i, hat, fun k hk => ?_⟩
 rw [hat k hk]
 exact land_slot hc hp (hm k hk)
end Go.Proofs.YtaebebpldkciiaaGreatDoor
