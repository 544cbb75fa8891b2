/- The walk of RecordFrom. -/
import Derived.Test.YtahdjndpefclkaaDoorL5
import Derived.Deep.RegionHeld3
import Derived.Deep.Cut
namespace Go.Proofs.YtahdjndpefclkaaDoor
open Go.RowKit
open Go.Lib hiding intOf

theorem own_sl {w : World} {base c : Nat} {A : Option Addr} {l : List Ent} (h : w.ownsRow base 23 4 (.slice A l.length c) l.length (l.flatMap rowE)) : Sl w w.heap.size 4 A l.length (fun i => rowE ((l[i]?).getD zeroE)) :=
  Sl.of_own h (Nat.le_refl _) fun i hi j v hj => by
    refine rowE_at l i _ ?_ j v hj
    rw [List.getElem?_eq_getElem hi]; rfl

theorem EntP.q {L : List Ent} {i : Nat} {w w' : World} {y : Ending} (h : EntP (L.drop i) w y w') : ∃ A c, y = .returned (.slice A (L.length - i) c) ∧ Sl w' w'.heap.size 4 A (L.length - i) (fun k => rowE ((L[i + k]?).getD zeroE)) ∧ Below w.heap.size w w' := by
  obtain ⟨A, c, rfl, hown, hb⟩ := h
  have hs := own_sl hown
  rw [List.length_drop] at hs
  refine ⟨A, c, by rw [List.length_drop], ?_, hb⟩
  simp only [List.getElem?_drop] at hs
  exact hs

set_option maxRecDepth 100000 in
set_option maxHeartbeats 4000000 in
theorem From_walk (A : Option Addr) (n c : Nat) (f : Nat → Ent) (z : Int) (w : World) (hA : Sl w w.heap.size 4 A n (fun i => rowE (f i))) (hf : ∀ i, i < n → Wf (f i)) (hc : n ≤ c) (hcm : c ≤ maxLen) (hnil : A = none → n = 0 ∧ c = 0) (he : Env w) :
    Calls Tryd.prog 6 #[.slice A n c, .int .i64 z] w fun y w' => y = .returned (.bool true) ∧ Below w.heap.size w w' := by
  have HLo := Lib.hid (logOf_any A n c (min n 12) f w hA hf hc hcm hnil rfl)
  have HE := Lib.hid he
  have HFa := Lib.hid (fun W (hW : Env W) => fact_any W hW)
  clear hA hf hnil he
  go_enter Tryd.func6, Tryd.ntmps6
  go_wp2_with fail
  refine HLo.out.mono ?_
  rintro e w1 ⟨L, rfl, hL1, hok, hl12, hb1⟩
  go_wp2_with fail
  refine (HFa.out _ (HE.out.below hb1)).mono ?_
  rintro e w2 ⟨rfl, hb2⟩
  have B2 := bstep hb1 hb2
  obtain ⟨A1, c1, hLA⟩ := hL1.below hb2
  have HLA := Lib.hid hLA
  have HEn := Lib.hid (Entries_any hLA 0 0 (by omega) (by omega) (by omega))
  rw [List.drop_zero] at HEn
  have hone : ((0 : Nat) : Int) + 1 = 1 := rfl
  rw [hone] at HEn
  clear hL1 hLA hone
  go_wp2_with fail
  refine HEn.out.mono ?_
  rintro e w3 ⟨A3, c3, rfl, hown, hb3⟩
  have B3 := bstep B2 hb3
  have HOk := Lib.hid hok
  have HOwn := Lib.hid hown
  clear hok hown
  go_wp2
  go_loopw [7, 8, 21] (fun _ _ i wr => ∃ j : Nat, j ≤ L.length ∧ i = .int .i64 (j : Int) ∧ Below w3.heap.size w3 wr) (fun _ _ i _ => L.length - (intOf i).toNat)
  case atStart => exact ⟨0, by omega, rfl, Below.refl _ _⟩
  case round =>
    obtain ⟨j, hj, rfl, hbr⟩ := hrel
    by_cases hlt : j < L.length
    · have hget : ∀ i, i < L.length → ∃ x, L[i]? = some x := fun i hi => ⟨L[i], List.getElem?_eq_getElem hi⟩
      obtain ⟨x, hx⟩ := hget j hlt
      obtain ⟨hnum, hokx⟩ := HOk.out.1 j x hx
      have hsl := own_sl HOwn.out
      obtain ⟨b, off, rfl, hb, q0, q1, q2, q3⟩ := Sl.four hsl j hlt
      rw [hx] at q0 q1 q2 q3
      simp only [Option.getD_some] at q0 q1 q2 q3
      rw [hnum] at q0
      have o0 := (hbr.cell (p := ⟨b, off + j * 4, none⟩) hb).trans q0
      have o1 := (hbr.cell (p := ⟨b, off + j * 4 + 1, none⟩) hb).trans q1
      have o2 := (hbr.cell (p := ⟨b, off + j * 4 + 2, none⟩) hb).trans q2
      have o3 := (hbr.cell (p := ⟨b, off + j * 4 + 3, none⟩) hb).trans q3
      have hj0 : (0 : Int) ≤ (j : Int) := by omega
      have hjL : (j : Int) < (L.length : Int) := by omega
      have hjw : IntKind.i64.wrap ((j : Int) + 1) = (j : Int) + 1 := IntWalk.i64_in _ (by omega)
      obtain ⟨xt, hxt⟩ : ∃ xt, x.time = xt := ⟨_, rfl⟩
      have hba : ∀ v q, Below w3.heap.size w3 ((wr.alloc (.cells v 23)).drewN q) := fun v q => below_drewN (hbr.alloc hbr.size _) q
      have HBa := Lib.hid hba
      clear hba
      by_cases hz : j = 0
      · have hz0 : decide (0 < j) = false := by simp; omega
        have HZ := Lib.hid hz
        clear hz q0 q1 q2 q3 hsl hget hnum hokx hx
        go_wp2_with fail
        go_quiet (fail)
        go_wp2
        go_roundw
        case rel => exact ⟨j + 1, by omega, by go_num, HBa.out _ _⟩
        case measure => simp [intOf]; omega
      · obtain ⟨k, hk⟩ : ∃ k, j = k + 1 := ⟨j - 1, by omega⟩
        have hz0 : decide (0 < j) = true := by simp; omega
        obtain ⟨y, hy⟩ := hget k (by omega)
        have hle := HOk.out.2 k y x hy (by rw [← hk]; exact hx)
        obtain ⟨b', off', e, hb', r0, r1, r2, r3⟩ := Sl.four hsl k (by omega)
        cases e
        rw [hy] at r1
        simp only [Option.getD_some] at r1
        have p1 : wr.cell? ⟨b, off + k * 4 + 1, none⟩ = some (.int .i64 y.time) := (hbr.cell (p := ⟨b, off + k * 4 + 1, none⟩) hb).trans r1
        have hbw : b < wr.heap.size := Nat.lt_of_lt_of_le hb hbr.size
        have hbx : b ≠ wr.heap.size := by omega
        obtain ⟨yt, hyt⟩ : ∃ yt, y.time = yt := ⟨_, rfl⟩
        rw [hyt] at p1 hle
        rw [hxt] at hle o1
        have hlt2 : decide (xt < yt) = false := by simp; omega
        have hji : (j : Int) - 1 = (k : Int) := by omega
        have HK := Lib.hid hk
        have hjk : IntKind.i64.wrap (k : Int) = (k : Int) := IntWalk.i64_in _ (by omega)
        have hkl : (k : Int) < (L.length : Int) := by omega
        have hk0 : (0 : Int) ≤ (k : Int) := by omega
        clear hk hxt hyt hle hy q0 q1 q2 q3 r0 r1 r2 r3 hsl hget hnum hokx hx hz
        go_wp2_with fail
        go_quiet (fail)
        go_wp2
        go_roundw
        case rel => exact ⟨j + 1, by omega, by go_num, HBa.out _ _⟩
        case measure => simp [intOf]; omega
    · obtain rfl : L.length = j := by omega
      have hown : wr.ownsRow w2.heap.size 23 4 (.slice A3 L.length c3) L.length (L.flatMap rowE) := own_below HOwn.out hbr (Nat.le_refl _)
      have hcap := own_cap HOwn.out
      have hnil := own_nil HOwn.out
      have hcb := cutI_bd (n := z) (lo := 1) (hi := (L.length : Int) + 2) (by omega)
      obtain ⟨p, hp⟩ : ∃ p : Nat, cutI z 1 ((L.length : Int) + 2) = (p : Int) + 1 := ⟨(cutI z 1 ((L.length : Int) + 2)).toNat - 1, by omega⟩
      rw [hp] at hcb
      obtain ⟨i, hi⟩ : ∃ i, min p L.length = i := ⟨_, rfl⟩
      have hmi : min (p : Int) (L.length : Int) = (i : Int) := by omega
      obtain ⟨A4, hsl, hn4, hs4⟩ := drop34 (A := A3) (c := c3) L.length i (by omega) hcap.1 hcap.2 hnil
      have HSl := Lib.hid hs4
      have HOw2 := Lib.hid hown
      have HP := Lib.hid hp
      have HI := Lib.hid hi
      have hp0 : (0 : Int) ≤ (p : Int) := by omega
      have hpw : IntKind.i64.wrap (p : Int) = (p : Int) := IntWalk.i64_in _ (by omega)
      have hlw : IntKind.i64.wrap ((L.length : Int) + 2) = (L.length : Int) + 2 := IntWalk.i64_in _ (by omega)
      have HEn := Lib.hid (fun (W : World) (hW : Below w2.heap.size w2 W) => (Entries_any (HLA.out.below hW) p i (by omega) hi.symm (by omega)).mono fun _ _ h => h.q)
      have hbw : ∀ q, Below w2.heap.size w2 (wr.drewN q) := fun q => below_drewN (hb3.trans (hbr.mono hb3.size)) q
      have HBw := Lib.hid hbw
      have B4 := bstep B3 hbr
      have hs5 := fun (W : World) (hW : Below wr.heap.size wr W) => HSl.out W W.heap.size _ (own_sl (own_below HOw2.out hW (Nat.le_refl _)))
      have HS5 := Lib.hid hs5
      clear hbw hs5
      clear hown hp hi hs4 hn4 hcb
      go_wp2_with fail
      refine (Cut_any _ _ _ _ (by omega) (by omega) (by omega)).mono ?_
      rintro e w4 ⟨rfl, rfl⟩
      rw [HP.out]
      go_upto_region 12 with (fail)
      go_region_held3 (fun _ => True) (exact trivial) ((first
        | (go_at_call 18; refine (HEn.out _ (HBw.out _)).mono ?_; rintro e w5 ⟨A5, c5, rfl, hs6, hb5⟩; have hb6 : Below wr.heap.size wr w5 := (by first | exact hb5 | exact Below.trans (below_drewN (Below.refl _ wr) _) hb5))
        | (go_at_call 19; refine (EqualE A5 A4 (fun k => (L[i + k]?).getD zeroE) (L.length - i) _ _ _ _ (hs6) (HS5.out _ hb6) (by omega)).mono ?_; rintro e w6 ⟨rfl, q6, rfl⟩)))
      all_goals (go_wp2; go_ret)
      all_goals exact ⟨rfl, by first | exact bstep B4 hb6 | exact below_drewN (bstep B4 hb6) _ | exact below_drewN (below_drewN (bstep B4 hb6) _) _⟩
end Go.Proofs.YtahdjndpefclkaaDoor
