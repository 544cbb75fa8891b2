/- The walk of ReplayCompacts. -/
import Derived.Test.YtjmdebeffpdpcaaGreatDoorK5
import Derived.Test.YtjmdebeffpdpcaaGreatDoorSB7
import Derived.Test.YtjmdebeffpdpcaaGreatDoorQ1
import Derived.Test.YtjmdebeffpdpcaaGreatDoorM4
namespace Go.Proofs.YtjmdebeffpdpcaaGreatDoor
open Go.RowKit
open Go.Lib hiding intOf

/-- The entries of a log, by their places. -/
def gL (L : List Ent) (i : Nat) : Ent := (L[i]?).getD zeroE
theorem gL_at {L : List Ent} (h : LogOk L) {i : Nat} (hi : i < L.length) : (gL L i).num = (i : Int) + 1 ∧ Ok (gL L i) := by
  have e : L[i]? = some (gL L i) := by unfold gL; rw [List.getElem?_eq_getElem hi]; rfl
  exact h.1 i _ e
theorem ok_wf {e : Ent} (h : Ok e) : Wf e := by
  obtain ⟨h1, h2, h3, h4, h5, h6, _, _⟩ := h
  rw [size_bl] at h5 h6
  exact ⟨by omega, by omega, by unfold maxLen; omega, by unfold maxLen; omega⟩

theorem entsF_congr {f g : Nat → Ent} : ∀ k o, (∀ i, o ≤ i → i < o + k → f i = g i) → entsF f o k = entsF g o k
  | 0, _, _ => rfl
  | k + 1, o, h => by
    rw [entsF, entsF, h o (Nat.le_refl _) (by omega), entsF_congr k (o + 1) (fun i h1 h2 => h i (by omega) (by omega))]
theorem entsF_shift (g : Nat → Ent) (k : Nat) : ∀ r o, entsF (fun i => g (k + i)) o r = entsF g (k + o) r
  | 0, _ => rfl
  | r + 1, o => by rw [entsF, entsF, entsF_shift g k r (o + 1)]; rfl

/-- The law of two parts, for the entries of a sound log. -/
theorem partsL {L : List Ent} (h : LogOk L) (k : Nat) (hk : k ≤ L.length) (h12 : L.length ≤ 14) :
    ((runF [] (entsF (gL L) 0 k)).2.2 ≠ 0 → runF [] (entsF (gL L) 0 L.length) = runF [] (entsF (gL L) 0 k) ∧ (runF [] (entsF (gL L) 0 k)).1 = []) ∧
    ((runF [] (entsF (gL L) 0 k)).2.2 = 0 → (runF [] (entsF (gL L) 0 L.length)).1 = (runF (runF [] (entsF (gL L) 0 k)).1 (entsF (gL L) k (L.length - k))).1 ∧
      (runF [] (entsF (gL L) 0 L.length)).2.2 = (runF (runF [] (entsF (gL L) 0 k)).1 (entsF (gL L) k (L.length - k))).2.2) := by
  let g : Nat → Ent := fun i => if i < L.length then gL L i else { zeroE with num := (i : Int) + 1 }
  have hg : ∀ i, (g i).num = (i : Int) + 1 := fun i => by
    show (if i < L.length then gL L i else { zeroE with num := (i : Int) + 1 }).num = _
    split
    · rename_i hi; exact (gL_at h hi).1
    · rfl
  have hp := parts [] g hg k (L.length - k) (by omega)
  rw [show k + (L.length - k) = L.length by omega] at hp
  have e : ∀ o m, o + m ≤ L.length → entsF g o m = entsF (gL L) o m := fun o m hm => entsF_congr m o fun i _ h2 => by
    show (if i < L.length then gL L i else { zeroE with num := (i : Int) + 1 }) = _
    rw [if_pos (by omega)]
  rw [e 0 k (by omega), e 0 L.length (by omega), e k (L.length - k) (by omega)] at hp
  refine ⟨hp.1, fun h0 => ?_⟩
  rw [hp.2 h0]
  exact ⟨rfl, rfl⟩

theorem StAt.none_ (w : World) : StAt [] none 0 w := ⟨Sl.none_, rfl, fun x hx => absurd hx List.not_mem_nil, by decide, fun _ => rfl⟩

/-- What Compact hands back. -/
def CompP (L : List Ent) (k : Nat) (w : World) (e : Ending) (w' : World) : Prop :=
  Below w.heap.size w w' ∧ (((runF [] (entsF (gL L) 0 k)).2.2 ≠ 0 ∧ e = .returned (.tuple #[.slice none 0 0, .slice none 0 0, .int .i64 (runF [] (entsF (gL L) 0 k)).2.2])) ∨
    ((runF [] (entsF (gL L) 0 k)).2.2 = 0 ∧ ∃ A c A2 c2, e = .returned (.tuple #[.slice A (runF [] (entsF (gL L) 0 k)).1.length c, .slice A2 (L.length - k) c2, .int .i64 0]) ∧
      StAt (runF [] (entsF (gL L) 0 k)).1 A (runF [] (entsF (gL L) 0 k)).1.length w' ∧ Sl w' w'.heap.size 4 A2 (L.length - k) (fun i => rowE (gL L (k + i)))))

set_option maxRecDepth 100000 in
set_option maxHeartbeats 4000000 in
theorem Compact_ok {L : List Ent} (hok : LogOk L) (h12 : L.length ≤ 14) (k : Nat) (hk : k ≤ L.length) (w : World) (he : Env w) :
    Calls Tryz.prog 10 #[.string (mk (encs L)), .int .i64 (k : Int)] w (CompP L k w) := by
  have hlen := encs_len (l := L) (fun i e hi => (hok.1 i e hi).2)
  have hsz : (mk (encs L)).size = (encs L).length := size_mk _
  have HRec := Lib.hid (Recover_any (mk (encs L)) w (by omega) he)
  have HV := Lib.hid he
  have HOk := Lib.hid hok
  have hfin := fun h => runF_fine (l := []) (es := entsF (gL L) 0 k) h
  have HRun := Lib.hid (fun (A2 : Option Addr) (c2 : Nat) (W : World) (hS : Sl W W.heap.size 4 A2 L.length (fun i => rowE (gL L i))) (hv : Env W) => Run_any none 0 0 [] A2 k c2 (gL L) W (StAt.none_ W) (hS.less hk) (by unfold maxLen; omega) (fun i hi => ok_wf (gL_at hok (by omega)).2) hv)
  obtain ⟨R, hR⟩ : ∃ R, runF [] (entsF (gL L) 0 k) = R := ⟨_, rfl⟩
  rw [hR] at HRun hfin
  obtain ⟨LR, iR, cR⟩ := R
  simp only at HRun hfin
  have HR := Lib.hid hR
  have HFin := Lib.hid hfin
  obtain ⟨S, hS⟩ : ∃ S, mk (encs L) = S := ⟨_, rfl⟩
  have HSb := Lib.hid (show bl S = encs L by rw [← hS, bl_mk])
  rw [hS] at HRec hsz ⊢
  have hk0 : (0 : Int) ≤ (k : Int) := by omega
  have hkl : (k : Int) ≤ (L.length : Int) := by omega
  have d1 : decide ((k : Int) < 0) = false := by simp
  have d2 : decide ((L.length : Int) < (k : Int)) = false := by simp; omega
  clear hok he hfin hR hS
  go_enter Tryz.func10, Tryz.ntmps10
  go_wp2_with fail
  refine HRec.out.mono ?_
  rintro e w1 ⟨l, rest, rfl, ⟨A1, c1, hL1⟩, hok1, hsb, hst, hb1⟩
  obtain rfl : l = L := recov_eq hok1 HOk.out hst (by rw [← HSb.out]; exact hsb)
  have hEn := Lib.hid (Entries_all hL1 (by omega))
  have HB1 := Lib.hid hb1
  have d3 : decide (((encs l).length : Int) < (S.size : Int)) = false := by rw [hsz]; simp
  clear hL1 hok1 hsb hst hb1
  by_cases hc0 : cR = 0
  · have HSt := Lib.hid (HFin.out hc0)
    subst hc0
    go_wp2_with (first
      | (go_at_call 9; go_loud (refine hEn.out.mono ?_; rintro e w2 ⟨A2, c2, rfl, hn2, hcm2, hnl2, hs2, hb2⟩; have B2 := bstep HB1.out hb2; have hsl := fun W => slice34 (A := A2) (c := c2) l.length k hk hn2 hnl2 W; obtain ⟨A4, hdr, _, hds⟩ := drop34 (A := A2) (c := c2) l.length k hk hn2 hcm2 hnl2; have HDs := Lib.hid hds; have HS2 := Lib.hid hs2; clear hs2 hnl2 hds))
      | (go_at_call 13; go_loud (refine (HRun.out A2 c2 _ HS2.out (HV.out.below B2)).mono ?_; rintro e w3 ⟨A3, c3, rfl, ho3, hb3⟩; have B3 := bstep B2 hb3; have HO3 := Lib.hid (StAt.of_own HSt.out ho3); have HS4 := Lib.hid (HDs.out _ _ _ ((HS2.out.below hb3).more hb3.size)); clear ho3)))
    go_quiet (fail)
    go_wp2
    go_ret3
    unfold CompP
    rw [HR.out]
    exact ⟨below_drewN B3 _, .inr ⟨rfl, A3, c3, A4, c2 - k, rfl, HO3.out.below (below_drewN (Below.refl _ _) _), HS4.out⟩⟩
  · have hcb : (cR != 0) = true := by simpa using hc0
    have HC0 := Lib.hid hc0
    clear hc0 HFin
    go_wp2_with (first
      | (go_at_call 9; go_loud (refine hEn.out.mono ?_; rintro e w2 ⟨A2, c2, rfl, hn2, hcm2, hnl2, hs2, hb2⟩; have B2 := bstep HB1.out hb2; have hsl := fun W => slice34 (A := A2) (c := c2) l.length k hk hn2 hnl2 W; have HS2 := Lib.hid hs2; clear hs2 hnl2))
      | (go_at_call 13; go_loud (refine (HRun.out A2 c2 _ HS2.out (HV.out.below B2)).mono ?_; rintro e w3 ⟨A3, c3, rfl, ho3, hb3⟩; have B3 := bstep B2 hb3; clear ho3)))
    go_ret3
    unfold CompP
    rw [HR.out]
    exact ⟨B3, .inl ⟨HC0.out, rfl⟩⟩
end Go.Proofs.YtjmdebeffpdpcaaGreatDoor

namespace Go.Proofs.YtjmdebeffpdpcaaGreatDoor
open Go.RowKit
open Go.Lib hiding intOf

end Go.Proofs.YtjmdebeffpdpcaaGreatDoor
