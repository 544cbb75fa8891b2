/- SeasonCounts: the walk, with Run. -/
import Derived.Test.YtaebebpldkciiaaGreatDoorS17
import Derived.Test.YtaebebpldkciiaaGreatDoorS23
namespace Go.Proofs.YtaebebpldkciiaaGreatDoor
open Go.RowKit

theorem cnt_run {S : Su} {l : List Inp} {W : World} {e : Ending} {w' : World} (h3 : ∀ i, i < l.length → (l[i]!).time ≤ 300) (h : RunS S l W e w') : CntG S l W e w' := by
  obtain ⟨h1, h2⟩ := h
  by_cases hE : suE S = 0
  · rw [if_pos hE] at h1
    obtain ⟨c1, c2⟩ := runP_count (ks := kindsS) (S := S) h3
    exact ⟨_, _, _, _, 0, h1, .inl ⟨hE, rfl, by rw [c1], by omega⟩, h2⟩
  · rw [if_neg hE] at h1
    exact ⟨0, 0, 0, 0, _, h1, .inr ⟨hE, hE⟩, h2⟩
theorem SeasonCounts_all (S : Su) (l : List Inp) (hs : List Hd) (n : Nat) (A : Option Addr) (cA : Nat) (pA : Option Addr) (pn pc : Nat) (pk : Nat → Int) (w : World) (hW : SeaW w) (hI : SArg l hs A n cA w) (hP : PArg pk pA pn pc w) :
    Calls Tryz.prog 7 #[suA S, .slice A n cA, .slice pA pn pc] w fun e w' => e = .returned (.bool true) ∧ Below w.heap.size w w' := by
  refine SeasonCounts_any S l hs n A cA pA pn pc w hW.ks hW.pos hI.ins hI.cap hI.nil (fun q hq => takePk pn q hq hP.cap.1 hP.cap.2 hP.nil) (fun W hb => fact18_any W (hW.below hb)) ?_
  intro l2 hs2 B m2 d2 W pA2 q c3 hb hI2 hm ht hq hq20 hA
  have hW' := hW.below hb
  refine (Run_any S l2 hs2 m2 B d2 pA2 q c3 pk W hW'.ks hW'.pos hI2 (by omega) (((hP.row.below hb).more hb.size).first hq hA) (by omega) hW'.tab).mono ?_
  intro e w' h
  exact cnt_run (fun i hi => ht i (by rw [← hI2.ln]; exact hi)) h
end Go.Proofs.YtaebebpldkciiaaGreatDoor
