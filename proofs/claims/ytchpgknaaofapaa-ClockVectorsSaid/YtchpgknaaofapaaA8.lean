/- The walk of ClockVectors. -/
import Derived.Test.YtchpgknaaofapaaA7
namespace Go.Proofs.Ytchpgknaaofapaa
open Go.RowKit

def lessB (l : List Ev) (i k s : Nat) : Bool := decide (i ≠ k) && (List.range s).all fun t => decide (VvE l i t ≤ VvE l k t)
theorem lessB_zero (l : List Ev) (i k : Nat) : lessB l i k 0 = decide (i ≠ k) := by simp [lessB]
theorem lessB_succ (l : List Ev) (i k s : Nat) : lessB l i k (s + 1) = (lessB l i k s && decide (VvE l i s ≤ VvE l k s)) := by simp [lessB, List.range_succ, Bool.and_assoc]
theorem less_bef {l : List Ev} (h : checkE l = 0) {i k : Nat} (hi : i < l.length) (hk : k < l.length) : lessB l i k 8 = befB l i k := by
  obtain ⟨_, ha8, _⟩ := ev_ok ((code_inv h).2 i hi)
  rw [Bool.eq_iff_iff]
  unfold lessB befB
  simp only [Bool.and_eq_true, decide_eq_true_eq, List.all_eq_true, List.mem_range]
  constructor
  · rintro ⟨h1, h2⟩
    exact ⟨h1, h2 _ ha8⟩
  · rintro ⟨h1, h2⟩
    have := (Clk.counted (sa := sa l) (sj := sj l) (rc := rc l) (code_sj h) hi hk h2).2.1
    exact ⟨h1, fun t _ => this t⟩

set_option maxRecDepth 100000 in
set_option maxHeartbeats 4000000 in
theorem Vecs_any (A : Option Addr) (n c N : Nat) (lf l : List Ev) (hlf : lf.length = n) (hl : l = lf.take 20) (hN : l.length = N) (w : World) (hA : EvsAt w w.heap.size A lf) (hn : n ≤ c) (hc : c ≤ maxLen) (hnil : A = none → n = 0 ∧ c = 0) :
    Calls Try.prog 3 #[.slice A n c] w fun e w' => e = .returned (.bool true) ∧ Below w.heap.size w w' := by
  have hA2 : EvsAt w w.heap.size A l := by rw [hl]; exact evs_take hA 20
  have hmin : min (n : Int) 20 = (N : Int) := by rw [← hN, hl, List.length_take, hlf]; omega
  have hNc : N ≤ c := by omega
  have hN0 : (0 : Int) ≤ (N : Int) := by omega
  have hNc' : (N : Int) ≤ (c : Int) := by omega
  have HA := Lib.hid hA2
  have HN := Lib.hid hN
  have hN20 : N ≤ 20 := by omega
  have hcm := hc
  clear hA hA2 hl hlf hN
  have hsl : Hid (∀ W : World, (Instr.slice 22 (.slice A n c) none (some (.int .i64 (N : Int))) none).run Try.prog W = .ok (.slice A N c) W) := by
    refine Lib.hid fun W => ?_
    cases A with
    | none =>
      obtain ⟨rfl, rfl⟩ := hnil rfl
      obtain rfl : N = 0 := by omega
      go_simp
    | some a => go_simp
  have hslo := hsl.out
  unfold maxLen at hcm
  by_cases he : checkE l = 0
  · have hcon := Vectors_ok A c l N HN.out w HA.out hNc hc he
    have HC := Lib.hid he
    clear he
    go_enter Try.func3, Try.ntmps3
    go_wp2_with (first
      | (go_at_call 8; refine hcon.mono ?_; rintro e w1 ⟨O, co, hs, rfl, hV, hb1⟩; have HV := Lib.hid hV; clear hV)
      | (go_at_call 9; refine (fact_any _).mono ?_; rintro e w2 ⟨rfl, hb2⟩))
    have hV2 := HV.out.below hb2
    have hbel2 := hb1.trans (hb2.mono hb1.size)
    have HX := Lib.hid (And.intro hV2 hbel2)
    clear hV2 hbel2 hb1 hb2 HV hcon
    go_loopw [40] (fun x wr => ∃ i : Nat, i ≤ N ∧ x = .int .i64 i ∧ VecRows wr w.heap.size (.slice O N co) N hs (VvE l) ∧ Below w.heap.size w wr) (fun x _ => N - (intOf x).toNat)
    case atStart => exact ⟨0, by omega, rfl, HX.out.1, HX.out.2⟩
    case round =>
      obtain ⟨i, hi, rfl, hV, hbel⟩ := hrel
      by_cases hlt : i < N
      · obtain ⟨wo, rfl⟩ : ∃ wo : World, wo = wr := ⟨_, rfl⟩
        have hi0 : (0 : Int) ≤ (i : Int) := by omega
        have hiN : (i : Int) < (N : Int) := by omega
        go_wp2
        go_loopw [45] (fun x wr => ∃ k : Nat, k ≤ N ∧ x = .int .i64 k ∧ VecRows wr w.heap.size (.slice O N co) N hs (VvE l) ∧ Below w.heap.size w wr) (fun x _ => N - (intOf x).toNat)
        case atStart => exact ⟨0, by omega, rfl, hV, hbel⟩
        case round =>
          obtain ⟨k, hk, rfl, hV2, hbel2⟩ := hrel
          by_cases hltk : k < N
          · obtain ⟨wi, rfl⟩ : ∃ wi : World, wi = wr := ⟨_, rfl⟩
            have hk0 : (0 : Int) ≤ (k : Int) := by omega
            have hkN : (k : Int) < (N : Int) := by omega
            obtain ⟨go, rfl, hgo, hrow⟩ := hV2.get (by omega)
            obtain ⟨gi, ci, hgi, r1, r2⟩ := hrow i hlt
            obtain ⟨gk, ck, hgk, r3, r4⟩ := hrow k hltk
            have HV2 := Lib.hid hV2
            have R2 := Lib.hid r2
            have R4 := Lib.hid r4
            have hne : ((i : Int) != (k : Int)) = lessB l i k 0 := by rw [lessB_zero]; rw [Bool.eq_iff_iff]; simp; omega
            have HNE := Lib.hid hne
            clear hrow r2 r4 hV2 hV hne
            go_wp2
            rw [HNE.out]
            go_loopw [7, 65] (fun b x wr => ∃ s : Nat, s ≤ 8 ∧ x = .int .i64 s ∧ b = .bool (lessB l i k s) ∧ ∃ q, wr = wi.drewN q) (fun _ x _ => 8 - (intOf x).toNat)
            case atStart => exact ⟨0, by omega, rfl, rfl, 0, rfl⟩
            case round =>
              obtain ⟨s, hs8, rfl, rfl, q, rfl⟩ := hrel
              by_cases hlt8 : s < 8
              · have r2 := R2.out s hlt8
                have r4 := R4.out s hlt8
                have hs0 : (0 : Int) ≤ (s : Int) := by omega
                have hs8' : (s : Int) < 8 := by omega
                have hsucc := lessB_succ l i k s
                have HS := Lib.hid hsucc
                clear hsucc
                cases hb : lessB l i k s with
                | true =>
                  rw [hb] at HS
                  clear hb
                  generalize VvE l i s = x at *
                  generalize VvE l k s = y at *
                  go_wp2
                  go_quiet (fail)
                  go_wp2
                  go_roundw
                  case rel => exact ⟨s + 1, by omega, by go_num, by rw [HS.out]; simp, _, rfl⟩
                  case measure => simp [intOf]; omega
                | false =>
                  rw [hb] at HS
                  clear hb
                  go_wp2
                  go_quiet (fail)
                  go_wp2
                  go_roundw
                  case rel => exact ⟨s + 1, by omega, by go_num, by rw [HS.out]; simp, _, rfl⟩
                  case measure => simp [intOf]; omega
              · obtain rfl : s = 8 := by omega
                have hb8 := less_bef HC.out (i := i) (k := k) (by rw [HN.out]; exact hlt) (by rw [HN.out]; exact hltk)
                rw [hb8]
                have hcon := Before_ok A c l N i k HN.out (wi.drewN q) ((HA.out.below (below_drewN hbel2 q)).more (below_drewN hbel2 q).size) hNc hc HC.out hlt hltk
                generalize befB l i k = r at *
                clear hb8
                go_wp2_with (go_at_call 10; refine hcon.mono ?_; rintro e w3 ⟨rfl, hb3⟩)
                go_roundw
                case rel => exact ⟨k + 1, by omega, by go_num, (HV2.out.drewN q).below hb3, (below_drewN hbel2 q).trans (hb3.mono (below_drewN hbel2 q).size)⟩
                case measure => simp [intOf]; omega
          · obtain rfl : N = k := by omega
            go_wp2
            go_roundw
            case rel => exact ⟨i + 1, by omega, by go_num, hV2, hbel2⟩
            case measure => simp [intOf]; omega
      · obtain rfl : N = i := by omega
        go_wp2
        go_ret
        exact ⟨rfl, hbel⟩
  · have hne : (checkE l != 0) = true := by simp [he]
    have hcon := Vectors_no A c l N HN.out w HA.out hNc hc he
    generalize checkE l = r at *
    clear he
    go_enter Try.func3, Try.ntmps3
    go_wp2_with (first
      | (go_at_call 8; refine hcon.mono ?_; rintro e w1 ⟨rfl, hb1⟩)
      | (go_at_call 9; refine (fact_any _).mono ?_; rintro e w2 ⟨rfl, hb2⟩))
    go_ret
    exact ⟨rfl, hb1.trans (hb2.mono hb1.size)⟩
end Go.Proofs.Ytchpgknaaofapaa
