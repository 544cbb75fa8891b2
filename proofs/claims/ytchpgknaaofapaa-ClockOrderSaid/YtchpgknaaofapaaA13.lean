/- The walk of ClockFront. -/
import Derived.Test.YtchpgknaaofapaaA12
namespace Go.Proofs.Ytchpgknaaofapaa
open Go.RowKit

def cutM (z : Int) (N : Nat) : Nat := (cutI z 0 (N : Int)).toNat
theorem cutM_le (z : Int) (N : Nat) : cutM z N ≤ N := by
  have := cutI_bd (n := z) (lo := 0) (hi := (N : Int)) (by omega)
  unfold cutM; omega
theorem CutM_any (z : Int) (N : Nat) (W : World) (h2 : N ≤ 1000000) : Calls Try.prog 11 #[.int .i64 z, .int .i64 0, .int .i64 (N : Int)] W fun e w' => e = .returned (.int .i64 ((cutM z N : Nat) : Int)) ∧ W = w' := by
  have h3 := cutI_bd (n := z) (lo := 0) (hi := (N : Int)) (by omega)
  have h4 : cutI z 0 (N : Int) = ((cutM z N : Nat) : Int) := by unfold cutM; omega
  rw [← h4]
  exact Cut_any z 0 (N : Int) W (by omega) (by omega) (by omega)
theorem own_nil {w : World} {base n k c : Nat} {e : TypeId} {A : Option Addr} {xs : List Value} (h : w.ownsRow base e k (.slice A n c) n xs) : A = none → n = 0 ∧ c = 0 := fun hA => by
  subst hA
  rcases h.2 with ⟨h1, h2⟩ | ⟨g, cap, cur, h1, _⟩
  · cases h1; exact ⟨rfl, rfl⟩
  · cases h1
theorem bstep {a b c : World} (h : Below a.heap.size a b) (h' : Below b.heap.size b c) : Below a.heap.size a c := h.trans (h'.mono h.size)
theorem RowsAt.less {w : World} {a n m : Nat} {V : Nat → Nat → Int} (h : RowsAt w a n V) (hm : m ≤ n) : RowsAt w a m V := ⟨h.lt, fun i hi => h.row i (by omega)⟩
theorem rows_of {w : World} {base n c : Nat} {A : Option Addr} {hs : List Value} {V : Nat → Nat → Int} (h : VecRows w base (.slice A n c) n hs V) (hn : 0 < n) : ∃ go, A = some ⟨go, 0, none⟩ ∧ RowsAt w go n V := by
  obtain ⟨go, h1, h2, h3⟩ := h.get hn
  exact ⟨go, h1, h2, h3⟩

set_option maxRecDepth 100000 in
set_option maxHeartbeats 8000000 in
theorem Front_any (A : Option Addr) (n c N : Nat) (lf l : List Ev) (y : Int) (hlf : lf.length = n) (hl : l = lf.take 25) (hN : l.length = N) (w : World) (hA : EvsAt w w.heap.size A lf) (hn : n ≤ c) (hc : c ≤ maxLen) (hnil : A = none → n = 0 ∧ c = 0) :
    Calls Try.prog 5 #[.slice A n c, .int .i64 y] w fun e w' => e = .returned (.bool true) ∧ Below w.heap.size w w' := by
  have hA2 : EvsAt w w.heap.size A l := by rw [hl]; exact evs_take hA 25
  have hmin : min (n : Int) 25 = (N : Int) := by rw [← hN, hl, List.length_take, hlf]; omega
  have hNc : N ≤ c := by omega
  have hN0 : (0 : Int) ≤ (N : Int) := by omega
  have hNc' : (N : Int) ≤ (c : Int) := by omega
  have HA := Lib.hid hA2
  have HN := Lib.hid hN
  have hN25 : N ≤ 25 := by omega
  have hcm := hc
  clear hA hA2 hl hlf hN
  have hslo := slice_to22 A n c N hNc hc hnil
  by_cases he : checkE l = 0
  · have hq := cutM_le y N
    have hslq := slice_to22 A N c (cutM y N) (by omega) hc (fun h => by obtain ⟨h1, h2⟩ := hnil h; exact ⟨by omega, h2⟩)
    have hLam := Lamport_ok A c l N HN.out w HA.out hNc hc he
    have hlq : (l.take (cutM y N)).length = cutM y N := by rw [List.length_take]; have := HN.out; omega
    have hcq := take_code he (k := cutM y N) (by have := HN.out; omega)
    have hLq := fun (W : World) (hb : Below w.heap.size w W) => Lamport_ok A c (l.take (cutM y N)) (cutM y N) hlq W (evs_take ((HA.out.below hb).more hb.size) _) (by omega) hc hcq
    have hVn := fun (W : World) (hb : Below w.heap.size w W) => Vectors_ok A c l N HN.out W ((HA.out.below hb).more hb.size) hNc hc he
    have hVq := fun (W : World) (hb : Below w.heap.size w W) => Vectors_ok A c (l.take (cutM y N)) (cutM y N) hlq W (evs_take ((HA.out.below hb).more hb.size) _) (by omega) hc hcq
    have heq : eqB (cutM y N) (cutM y N) (LvE l) (LvE (l.take (cutM y N))) = true := eqB_true rfl (fun i hi => (take_Lv (by have := HN.out; omega) hi).symm)
    have hvv : ∀ i, i < cutM y N → ∀ s, s < 8 → VvE l i s = VvE (l.take (cutM y N)) i s := fun i hi s _ => (take_Vv (by have := HN.out; omega) hi s).symm
    have HLq := Lib.hid hLq
    have HVn := Lib.hid hVn
    have HVq := Lib.hid hVq
    have HEQ := Lib.hid heq
    have HVV := Lib.hid hvv
    have hqN0 : (0 : Int) ≤ ((cutM y N : Nat) : Int) := by omega
    clear he hlq hcq hLq hVn hVq heq hvv
    have tok1 : True := trivial
    have tok2 : True := trivial
    by_cases hq0 : cutM y N = 0
    · have HZ := Lib.hid hq0
      clear hq0
      go_enter Try.func5, Try.ntmps5
      go_wp2_with (first
        | (go_at_call 12; have _t := tok1; refine hLam.mono ?_; rintro e w1 ⟨v1, rfl, hv1, hb1⟩; obtain ⟨A1, c1, rfl⟩ := own_shape hv1; have HV1 := Lib.hid hv1; clear hv1; clear tok1)
        | (go_at_call 11; refine (CutM_any _ _ _ (by omega)).mono ?_; rintro e w2 ⟨rfl, rfl⟩)
        | (go_at_call 12; refine (HLq.out _ hb1).mono ?_; rintro e w3 ⟨v3, rfl, hv3, hb3⟩; obtain ⟨A3, c3, rfl⟩ := own_shape hv3; have HV3 := Lib.hid hv3; clear hv3)
        | (go_at_call 8; have _t := tok2; refine (HVn.out _ (hb1.trans (hb3.mono hb1.size))).mono ?_; rintro e w4 ⟨O4, c4, hs4, rfl, hV4, hb4⟩; have HV4 := Lib.hid hV4; clear hV4 tok2; have hx4 := slice_to23 O4 N c4 (cutM y N) (Nat.le_trans (cutM_le y N) (own_cap HV4.out.own).1) (own_cap HV4.out.own).2 (own_nil HV4.out.own); have hx1 := slice_to28 A1 N c1 (cutM y N) (Nat.le_trans (cutM_le y N) (own_cap HV1.out).1) (own_cap HV1.out).2 (own_nil HV1.out))
        | (go_at_call 8; refine (HVq.out _ ((hb1.trans (hb3.mono hb1.size)).trans (hb4.mono (hb1.trans (hb3.mono hb1.size)).size))).mono ?_; rintro e w5 ⟨O5, c5, hs5, rfl, hV5, hb5⟩; have HV5 := Lib.hid hV5; clear hV5)
        | (go_at_call 9; refine (fact_any _).mono ?_; rintro e w6 ⟨rfl, hb6⟩; have hb36 := bstep (bstep hb4 hb5) hb6; have hb16 := bstep hb3 hb36; have hS1 := (((Sl_ints HV1.out).less (cutM_le y N)).below hb16).more hb16.size; have hS3 := ((Sl_ints HV3.out).below hb36).more hb36.size; have HS1 := Lib.hid hS1; have HS3 := Lib.hid hS3; clear hS1 hS3)
        | (go_at_call 13; go_loud (refine (Equal_any A1 A3 (cutM y N) (cutM y N) c1 c3 w6.heap.size (LvE l) (LvE (l.take (cutM y N))) _ HS1.out HS3.out (by have := cutM_le y N; omega) (by have := cutM_le y N; omega)).mono ?_; rintro e w7 ⟨he7, hb7⟩; rw [HEQ.out] at he7; subst he7))
        | (go_at_call 14; go_loud (rw [HZ.out]; refine (EqF_zero _ _ _ _ _).mono ?_; rintro e w8 ⟨rfl, hb8⟩)))
      go_ret
      exact ⟨rfl, bstep hb1 (bstep hb16 (bstep hb7 hb8))⟩
    · have hq1 : 0 < cutM y N := by omega
      clear hq0
      go_enter Try.func5, Try.ntmps5
      go_wp2_with (first
        | (go_at_call 12; have _t := tok1; refine hLam.mono ?_; rintro e w1 ⟨v1, rfl, hv1, hb1⟩; obtain ⟨A1, c1, rfl⟩ := own_shape hv1; have HV1 := Lib.hid hv1; clear hv1; clear tok1)
        | (go_at_call 11; refine (CutM_any _ _ _ (by omega)).mono ?_; rintro e w2 ⟨rfl, rfl⟩)
        | (go_at_call 12; refine (HLq.out _ hb1).mono ?_; rintro e w3 ⟨v3, rfl, hv3, hb3⟩; obtain ⟨A3, c3, rfl⟩ := own_shape hv3; have HV3 := Lib.hid hv3; clear hv3)
        | (go_at_call 8; have _t := tok2; refine (HVn.out _ (hb1.trans (hb3.mono hb1.size))).mono ?_; rintro e w4 ⟨O4, c4, hs4, rfl, hV4, hb4⟩; have HV4 := Lib.hid hV4; clear hV4 tok2; go_loud (obtain ⟨g4, hO4, hR4⟩ := rows_of HV4.out (by omega)); subst hO4; have HR4 := Lib.hid hR4; clear hR4; have hx4 := slice_to23 (some ⟨g4, 0, none⟩) N c4 (cutM y N) (Nat.le_trans (cutM_le y N) (own_cap HV4.out.own).1) (own_cap HV4.out.own).2 (own_nil HV4.out.own); have hx1 := slice_to28 A1 N c1 (cutM y N) (Nat.le_trans (cutM_le y N) (own_cap HV1.out).1) (own_cap HV1.out).2 (own_nil HV1.out))
        | (go_at_call 8; refine (HVq.out _ ((hb1.trans (hb3.mono hb1.size)).trans (hb4.mono (hb1.trans (hb3.mono hb1.size)).size))).mono ?_; rintro e w5 ⟨O5, c5, hs5, rfl, hV5, hb5⟩; have HV5 := Lib.hid hV5; clear hV5; obtain ⟨g5, hO5, hR5⟩ := rows_of HV5.out (by omega); subst hO5; have HR5 := Lib.hid hR5; clear hR5)
        | (go_at_call 9; refine (fact_any _).mono ?_; rintro e w6 ⟨rfl, hb6⟩; have hb36 := bstep (bstep hb4 hb5) hb6; have hb16 := bstep hb3 hb36; have hS1 := (((Sl_ints HV1.out).less (cutM_le y N)).below hb16).more hb16.size; have hS3 := ((Sl_ints HV3.out).below hb36).more hb36.size; have HS1 := Lib.hid hS1; have HS3 := Lib.hid hS3; clear hS1 hS3)
        | (go_at_call 13; go_loud (refine (Equal_any A1 A3 (cutM y N) (cutM y N) c1 c3 w6.heap.size (LvE l) (LvE (l.take (cutM y N))) _ HS1.out HS3.out (by have := cutM_le y N; omega) (by have := cutM_le y N; omega)).mono ?_; rintro e w7 ⟨he7, hb7⟩; rw [HEQ.out] at he7; subst he7))
        | (go_at_call 14; go_loud (refine (EqF_any g4 g5 (cutM y N) c4 c5 (VvE l) (VvE (l.take (cutM y N))) _ ((HR4.out.less (cutM_le y N)).below (bstep (bstep hb5 hb6) hb7)) (HR5.out.below (bstep hb6 hb7)) HVV.out (by have := cutM_le y N; omega)).mono ?_; rintro e w8 ⟨rfl, hb8⟩)))
      go_ret
      exact ⟨rfl, bstep hb1 (bstep hb16 (bstep hb7 hb8))⟩
  · have hne : (checkE l != 0) = true := by simp [he]
    have hcon := Lamport_no A c l N HN.out w HA.out hNc hc he
    generalize checkE l = r at *
    clear he
    go_enter Try.func5, Try.ntmps5
    go_wp2_with (first
      | (go_at_call 12; refine hcon.mono ?_; rintro e w1 ⟨rfl, hb1⟩)
      | (go_at_call 9; refine (fact_any _).mono ?_; rintro e w2 ⟨rfl, hb2⟩))
    go_ret
    exact ⟨rfl, hb1.trans (hb2.mono hb1.size)⟩
end Go.Proofs.Ytchpgknaaofapaa
