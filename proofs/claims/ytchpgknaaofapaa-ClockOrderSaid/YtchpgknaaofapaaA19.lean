/- The walk of ClockOrder. -/
import Derived.Test.YtchpgknaaofapaaA18
import Derived.Test.YtchpgknaaofapaaA9
import Derived.Outline
import Derived.Lib.MinMax
namespace Go.Proofs.Ytchpgknaaofapaa
open Go.RowKit

theorem bef_false {l : List Ev} {N : Nat} {p : Nat → Nat} (h : checkE l = 0) (hl : l.length = N) (hs : Sorted l N p) {i k : Nat} (hki : k < i) (hi : i < N) : befB l (p i) (p k) = false := by
  have hp : ∀ j, j < N → p j < N := fun j hj => by
    have : p j ∈ (List.range N).map p := List.mem_map.2 ⟨j, List.mem_range.2 hj, rfl⟩
    exact List.mem_range.1 (hs.perm.mem_iff.1 this)
  rw [Bool.eq_false_iff]
  intro hb
  unfold befB at hb
  simp only [Bool.and_eq_true, decide_eq_true_eq] at hb
  have h1 : LvE l (p i) < LvE l (p k) := Clk.counted_lt (sa := sa l) (sj := sj l) (rc := rc l) (code_sj h) (by rw [hl]; exact hp i hi) (by rw [hl]; exact hp k (by omega)) hb.1 hb.2
  have h2 := hs.sorted k i hki hi
  unfold cfO orI at h2
  rw [if_pos (by omega)] at h2
  omega
theorem sorted_lt {l : List Ev} {N : Nat} {p : Nat → Nat} (hs : Sorted l N p) {j : Nat} (hj : j < N) : p j < N := by
  have : p j ∈ (List.range N).map p := List.mem_map.2 ⟨j, List.mem_range.2 hj, rfl⟩
  exact List.mem_range.1 (hs.perm.mem_iff.1 this)

set_option maxRecDepth 100000 in
set_option maxHeartbeats 8000000 in
theorem COrder_any (A : Option Addr) (n c N : Nat) (lf l : List Ev) (hlf : lf.length = n) (hl : l = lf.take 25) (hN : l.length = N) (w : World) (hA : EvsAt w w.heap.size A lf) (hn : n ≤ c) (hc : c ≤ maxLen) (hnil : A = none → n = 0 ∧ c = 0) :
    Calls Try.prog 7 #[.slice A n c] w fun e w' => e = .returned (.bool true) ∧ Below w.heap.size w w' := by
  have hA2 : EvsAt w w.heap.size A l := by rw [hl]; exact evs_take hA 25
  have hmin : min (n : Int) 25 = (N : Int) := by rw [← hN, hl, List.length_take, hlf]; omega
  have hNc : N ≤ c := by omega
  have hN0 : (0 : Int) ≤ (N : Int) := by omega
  have hNc' : (N : Int) ≤ (c : Int) := by omega
  have HA := Lib.hid hA2
  have HN := Lib.hid hN
  have hN25 : N ≤ 25 := by omega
  have hcm := hc
  clear hA hA2 hl hlf hN
  have hsl : Hid (∀ W : World, (Instr.slice 22 (.slice A n c) none (some (.int .i64 (N : Int))) none).run Try.prog W = .ok (.slice A N c) W) := by
    refine Lib.hid fun W => ?_
    cases A with
    | none =>
      obtain ⟨rfl, rfl⟩ := hnil rfl
      obtain rfl : N = 0 := by omega
      go_simp
    | some a => go_simp
  have hslo := hsl.out
  unfold maxLen at hcm
  by_cases he : checkE l = 0
  · by_cases h0 : N = 0
    · subst h0
      have hcon := Order_zero A c w hc
      have HCON := Lib.hid hcon
      clear hcon he
      go_enter Try.func7, Try.ntmps7
      go_wp2_with (first
        | (go_at_call 17; go_loud (refine HCON.out.mono ?_; rintro e w1 ⟨rfl, hb1⟩))
        | (go_at_call 18; go_loud (refine (CloneInts_any none 0 0 (fun _ => [.int .i64 0]) _ Sl.none_ (fun _ _ => rfl) (fun _ h => absurd h (by omega)) (fun _ => rfl) (by decide) (by decide)).mono ?_; rintro e w2 ⟨v2, rfl, hv2, hb2⟩; obtain ⟨A2, c2, rfl⟩ := own_shape hv2; clear hv2))
        | (go_at_call 19; go_loud (refine (Sort_zero A2 c2 _).mono ?_; rintro e w3 ⟨rfl, rfl⟩))
        | (go_at_call 9; go_loud (refine (fact_any _).mono ?_; rintro e w4 ⟨rfl, hb4⟩)))
      go_loop [43] (fun x => x = .int .i64 (0 : Nat)) (fun _ => 0)
      case atStart => rfl
      case round =>
        obtain rfl := hrel
        go_wp2
        go_ret
        exact ⟨rfl, hb1.trans ((hb2.trans (hb4.mono hb2.size)).mono hb1.size)⟩
    · obtain ⟨M, rfl⟩ : ∃ M, N = M + 1 := ⟨N - 1, by omega⟩
      clear h0
      have hcon := Order_ok A c l M HN.out w HA.out hNc hc he
      have HCON := Lib.hid hcon
      have HC := Lib.hid he
      clear hcon he
      go_enter Try.func7, Try.ntmps7
      go_wp2_with (first
        | (go_at_call 17; go_loud (refine HCON.out.mono ?_; rintro e w1 ⟨b, c', p, rfl, hs, hlt1, hcell1, hb1, hbw⟩; have HS := Lib.hid hs; have H1 := Lib.hid (And.intro hcell1 hb1); clear hs hcell1 hb1))
        | (go_at_call 18; go_loud (refine (CloneInts_any (some ⟨b, 0, none⟩) (M + 1) c' (fun i => [.int .i64 ((p i : Nat) : Int)]) w1 (fun _ => ⟨b, 0, rfl, hlt1, fun i hi j u hu => by
            have hj0 : j = 0 := by
              rcases Nat.eq_zero_or_pos j with h | h
              · exact h
              · rw [List.getElem?_eq_none (by simp; omega)] at hu; cases hu
            subst hj0
            simp only [List.getElem?_cons_zero, Option.some.injEq] at hu
            rw [← hu, Nat.mul_one, Nat.zero_add, Nat.add_zero]
            exact H1.out.1 i hi⟩) (fun _ _ => rfl) (fun i _ u hu => by simp at hu; subst hu; rfl) (fun h => by cases h) (by unfold maxLen; omega) (by omega)).mono ?_; rintro e w2 ⟨v2, rfl, hv2, hb2⟩; rw [← intsV_flat] at hv2; obtain ⟨A2, c2, rfl⟩ := own_shape hv2; obtain ⟨g2, cap2, hsv2, hg2, hlt2⟩ := hv2.form (by omega); have hA2 : A2 = some ⟨g2, 0, none⟩ := (Value.slice.inj hsv2).1; subst hA2; have H2 := Lib.hid (And.intro hv2 hb2); clear hv2 hb2 hsv2))
        | (go_at_call 19; go_loud (refine (Sort_perm g2 c2 (M + 1) w1.heap.size p w2 HS.out.perm H2.out.1 (by omega)).mono ?_; rintro e w3 ⟨rfl, hcell3, hlt3, hb3⟩; have hb3 := hb3 w1.heap.size hg2 H2.out.2.size; have H3 := Lib.hid (And.intro hcell3 hb3); clear hcell3 hb3))
        | (go_at_call 9; go_loud (refine (fact_any _).mono ?_; rintro e w4 ⟨rfl, hb4⟩; have H4 := Lib.hid hb4; clear hb4)))
      have hz1 : w.heap.size ≤ w1.heap.size := H1.out.2.size
      have h14 : Below w1.heap.size w1 w4 := H2.out.2.trans (H3.out.2.trans (H4.out.mono (by have := H2.out.2.size; have := H3.out.2.size; omega)))
      have hO : ∀ i, i < M + 1 → w4.cell? ⟨b, i, none⟩ = some (.int .i64 ((p i : Nat) : Int)) := fun i hi => (h14.cell (p := ⟨b, i, none⟩) hlt1).trans (H1.out.1 i hi)
      have hS : ∀ i, i < M + 1 → w4.cell? ⟨g2, i, none⟩ = some (.int .i64 ((i : Nat) : Int)) := fun i hi => (H4.out.cell (p := ⟨g2, i, none⟩) hlt3).trans (H3.out.1 i hi)
      have hw4 : Below w.heap.size w w4 := H1.out.2.trans (h14.mono hz1)
      have hl4 : b < w4.heap.size := Nat.lt_of_lt_of_le hlt1 h14.size
      have hg4 : g2 < w4.heap.size := Nat.lt_of_lt_of_le hlt3 H4.out.size
      have HX := Lib.hid (And.intro hO (And.intro hS hw4))
      clear hO hS hw4 h14
      go_loopw [43] (fun x wr => ∃ i : Nat, i ≤ M + 1 ∧ x = .int .i64 i ∧ Below w4.heap.size w4 wr) (fun x _ => M + 1 - (intOf x).toNat)
      case atStart => exact ⟨0, by omega, rfl, Below.refl _ _⟩
      case round =>
        obtain ⟨i, hi, rfl, hbo⟩ := hrel
        obtain ⟨wo, rfl⟩ : ∃ wo : World, wo = wr := ⟨wr, rfl⟩
        by_cases hlt : i < M + 1
        · have cS := (hbo.cell (p := ⟨g2, i, none⟩) hg4).trans (HX.out.2.1 i hlt)
          have hi0 : (0 : Int) ≤ (i : Int) := by omega
          have hiM : (i : Int) < (M : Int) + 1 := by omega
          go_wp2_with fail
          go_loopw [53] (fun x wr => ∃ k : Nat, k ≤ i ∧ x = .int .i64 k ∧ Below w4.heap.size w4 wr) (fun x _ => i - (intOf x).toNat)
          case atStart => exact ⟨0, by omega, rfl, hbo⟩
          case round =>
            obtain ⟨k, hk, rfl, hbi⟩ := hrel
            by_cases hki : k < i
            · have cI := (hbi.cell (p := ⟨b, i, none⟩) hl4).trans (HX.out.1 i hlt)
              have cK := (hbi.cell (p := ⟨b, k, none⟩) hl4).trans (HX.out.1 k (by omega))
              have hbf := bef_false HC.out HN.out HS.out hki hlt
              have hpi := sorted_lt HS.out hlt
              have hpk := sorted_lt HS.out (show k < M + 1 by omega)
              have hbw4 := HX.out.2.2.trans (hbi.mono HX.out.2.2.size)
              have hcon := Before_ok A c l (M + 1) (p i) (p k) HN.out wr.drew (((HA.out.below hbw4).more hbw4.size)) hNc hc HC.out hpi hpk
              rw [hbf] at hcon
              have HCN := Lib.hid hcon
              have hk0 : (0 : Int) ≤ (k : Int) := by omega
              have hkM : (k : Int) < (M : Int) + 1 := by omega
              have hki' : (k : Int) < (i : Int) := by omega
              have hlb : b < wr.heap.size := Nat.lt_of_lt_of_le hl4 hbi.size
              clear hcon hbf
              generalize p i = pi at *
              generalize p k = pk at *
              go_wp2_with fail
              go_region_held3 (fun W => W.cell? ⟨b, i, none⟩ = some (.int .i64 ((pi : Nat) : Int)) ∧ W.cell? ⟨b, k, none⟩ = some (.int .i64 ((pk : Nat) : Int))) (first | go_keep | ((try dsimp only); constructor <;> go_keep) | ((try dsimp only); constructor <;> assumption)) ((go_at_call 10; go_loud (refine HCN.out.mono ?_; rintro e w8 ⟨rfl, hb8⟩; have e1 : w8.cell? ⟨b, i, none⟩ = some (.int .i64 ((pi : Nat) : Int)) := (hb8.cell (p := ⟨b, i, none⟩) hlb).trans cI; have e2 : w8.cell? ⟨b, k, none⟩ = some (.int .i64 ((pk : Nat) : Int)) := (hb8.cell (p := ⟨b, k, none⟩) hlb).trans cK)))
              clear e1 e2
              go_wp2_with fail
              go_roundw
              case rel => exact ⟨k + 1, by omega, by go_num, hbi.trans (Below.mono ((below_drewN (Below.refl _ wr) 1).trans hb8) hbi.size)⟩
              case measure => simp [intOf]; omega
            · obtain rfl : k = i := by omega
              go_wp2
              go_roundw
              case rel => exact ⟨k + 1, by omega, by go_num, hbi⟩
              case measure => simp [intOf]; omega
        · obtain rfl : i = M + 1 := by omega
          go_wp2
          go_ret
          exact ⟨rfl, HX.out.2.2.trans (hbo.mono HX.out.2.2.size)⟩
  · have hcon := Order_no A c l N HN.out w HA.out hNc hc he
    have hne : (checkE l != 0) = true := by simp [he]
    generalize checkE l = r at *
    have HCON := Lib.hid hcon
    clear hcon he
    go_enter Try.func7, Try.ntmps7
    go_wp2_with (first
      | (go_at_call 17; go_loud (refine HCON.out.mono ?_; rintro e w1 ⟨rfl, hb1⟩))
      | (go_at_call 9; go_loud (refine (fact_any _).mono ?_; rintro e w4 ⟨rfl, hb4⟩)))
    go_ret
    exact ⟨rfl, hb1.trans (hb4.mono hb1.size)⟩
end Go.Proofs.Ytchpgknaaofapaa
