/- Package approach: slices.SortFunc of arrivals. -/
import Derived.Test.YtmdfdjgeaemicaaF2
import Derived.Test.YtmdfdjgeaemicaaShS
namespace Go.Proofs.Ytmdfdjgeaemicaa
open Go.RowKit Go.Sort

theorem SortIt_any (b c n base : Nat) (l : List Va) (w : World) (h : w.ownsRow base 32 4 (.slice (some ⟨b, 0, none⟩) n c) n (rowsV vaV l)) (hn : l.length = n) (hN : n ≤ 1000) :
    Calls Try.prog 20 #[.slice (some ⟨b, 0, none⟩) n c, .func (.func 21) #[] #[]] w (SortedP l b n w) := by
  have hH := holdsK_own vaV_len (by decide) h hn
  have hlt := (h.lt b rfl).2
  have hsz : l.toArray.size = n := by simpa using hn
  have hcon := AnyQ.slices_SortFunc Try.l20 4 Try.isAgg32 Try.sizeOf32 vaV vaV_len vaV_one cfV swoV 21 #[] b 0 c l.toArray w eg21 (cmpV _ _ _ _) hH hlt (by omega)
  change Calls Try.prog 20 _ _ _ at hcon
  rw [hsz] at hcon
  refine hcon.mono ?_
  rintro e w' ⟨rfl, d, m, os, hp, hs, rfl⟩
  have e2 : ∀ (X : Array Va) (n : Nat), X.size = n → X.extract 0 n = X := fun X n h => by subst h; simp
  have hds : d.size = n := hp.1.trans hsz
  have hpm := hp.2.2
  rw [e2 _ _ hds, e2 _ _ hsz] at hpm
  refine ⟨rfl, ⟨d.toList, by simpa using hpm, fun i j hij hj => ?_, ?_⟩, fun B h1 h2 => below_sortK vaV 4 w b 0 m _ os B h1 h2⟩
  · have hj' : j < n := by rw [← hds]; simpa using hj
    have := hs i j (Nat.zero_le _) hij hj'
    unfold Go.Proofs.ltOf cfV at this
    simp only [decide_eq_false_iff_not] at this
    unfold vi
    rw [getElem!_pos d.toList i (by simp; omega), getElem!_pos d.toList j (by simp; omega)]
    rw [getElem!_pos d i (by omega), getElem!_pos d j (by omega)] at this
    simp only [Array.getElem_toList]
    omega
  · exact Sl_holdsK vaV_len (holdsK_sortWorldK_c vaV 4 w b 0 l.toArray _ m os hH hlt (by rw [hds, hsz])) hds (Nat.lt_of_lt_of_le hlt (size_sortWorldK_c vaV 4 w b 0 m _ os))
end Go.Proofs.Ytmdfdjgeaemicaa
