/- The walk of ClockApart. -/
import Derived.Test.YtchpgknaaofapaaA7
import Derived.Test.YtchpgknaaofapaaDr
namespace Go.Proofs.Ytchpgknaaofapaa
open Go.RowKit

/-- Events without messages. -/
def apEv (f : Nat → Int) (i : Nat) : Ev := (cutI (f i) 0 7, 0, 0)
def apL (f : Nat → Int) (N : Nat) : List Ev := (List.range N).map (apEv f)
theorem apL_len (f : Nat → Int) (N : Nat) : (apL f N).length = N := by simp [apL]
theorem apL_at (f : Nat → Int) {N i : Nat} (hi : i < N) : (apL f N)[i]! = apEv f i := by
  rw [getElem!_pos _ i (by rw [apL_len]; exact hi)]
  simp [apL]
theorem apL_code (f : Nat → Int) {N : Nat} (hN : N ≤ 20) : checkE (apL f N) = 0 := by
  unfold checkE
  rw [apL_len, if_neg (by omega)]
  refine checkFrom_all fun i _ hi => ?_
  unfold evE
  rw [apL_at f (by omega)]
  have := cutI_bd (n := f i) (lo := 0) (hi := 7) (by omega)
  unfold evOf apEv
  simp only
  rw [if_neg (by omega), if_neg (by omega), if_neg (by omega), if_neg (by omega)]
theorem apL_row (f : Nat → Int) {N : Nat} {w : World} {base c : Nat} {A : Option Addr} (h : w.ownsRow base 34 3 (.slice A N c) N (flatR (fun i => evV (apEv f i)) N)) : EvsAt w w.heap.size A (apL f N) := by
  unfold EvsAt
  rw [apL_len]
  refine (Sl_flat (k := 3) (row := fun i => evV (apEv f i)) (fun _ _ => rfl) h).congr fun i hi => ?_
  rw [apL_at f hi]
theorem apL_sa (f : Nat → Int) {N i : Nat} (hi : i < N) : ((sa (apL f N) i : Nat) : Int) = cutI (f i) 0 7 := by
  have := cutI_bd (n := f i) (lo := 0) (hi := 7) (by omega)
  unfold sa
  rw [apL_at f hi]
  show ((cutI (f i) 0 7).toNat : Int) = _
  omega
theorem apL_rc (f : Nat → Int) {N : Nat} : ∀ i, i < N → rc (apL f N) i = false := fun i hi => by
  unfold rc
  rw [apL_at f hi]
  rfl
theorem apL_bef (f : Nat → Int) {N i k : Nat} (hi : i < N) (hk : k < N) : befB (apL f N) i k = (decide (i < k) && decide (cutI (f i) 0 7 = cutI (f k) 0 7)) := by
  have h1 := (Clk.apart (sa := sa (apL f N)) (sj := sj (apL f N)) (apL_rc f (N := N)) N (Nat.le_refl _)).2
  have hVi := h1 i hi
  have hVk := h1 k hk
  have e1 := apL_sa f hi
  have e2 := apL_sa f hk
  rw [← e1, ← e2]
  unfold befB VvE
  rw [hVi, hVk, if_pos rfl]
  generalize sa (apL f N) = s at *
  rw [Bool.eq_iff_iff]
  simp only [Bool.and_eq_true, decide_eq_true_eq]
  have hc := Clk.cnt_at (sa := s) i
  have hk' := Clk.cnt_at (sa := s) k
  constructor
  · rintro ⟨h2, h3⟩
    by_cases e : s i = s k
    · rw [if_pos e] at h3
      refine ⟨Nat.lt_of_le_of_ne (Nat.le_of_not_lt fun hlt => ?_) h2, by omega⟩
      have := Clk.cnt_mono (sa := s) (i := k + 1) (n := i) (by omega) (s k)
      rw [e] at hc h3
      omega
    · rw [if_neg e] at h3; omega
  · rintro ⟨h2, h3⟩
    have e : s i = s k := by omega
    rw [if_pos e, e]
    have := Clk.cnt_mono (sa := s) (i := i + 1) (n := k + 1) (by omega) (s k)
    exact ⟨by omega, by omega⟩

theorem own_cap {w : World} {base n k c : Nat} {e : TypeId} {A : Option Addr} {xs : List Value} (h : w.ownsRow base e k (.slice A n c) n xs) : n ≤ c ∧ c ≤ maxLen := by
  rcases h.2 with ⟨h1, h2⟩ | ⟨g, cap, cur, h1, _, _, h3, h4, _⟩
  · cases h1; exact ⟨Nat.le_refl _, by decide⟩
  · cases h1; exact ⟨h3, h4⟩

theorem ev_info : (Try.prog.info? 34).map (fun i => (i.zero, i.size, i.bytes)) = some (some (.agg #[.int .i64 0, .int .i64 0, .int .i64 0]), 3, 24) := by kernel_rfl

set_option maxRecDepth 100000 in
set_option maxHeartbeats 4000000 in
theorem Apart_any (A : Option Addr) (n c N : Nat) (f : Nat → Int) (x y : Int) (w : World) (hA : Sl w w.heap.size 1 A n (fun i => [.int .i64 (f i)])) (hn : n ≤ c) (hc : c ≤ maxLen) (hnil : A = none → n = 0 ∧ c = 0) (hN : N = min n 20) :
    Calls Try.prog 4 #[.slice A n c, .int .i64 x, .int .i64 y] w fun e w' => e = .returned (.bool true) ∧ Below w.heap.size w w' := by
  have hmin : min (n : Int) 20 = (N : Int) := by omega
  have hNn : N ≤ n := by omega
  have hNc : N ≤ c := by omega
  have hN0 : (0 : Int) ≤ (N : Int) := by omega
  have hNc' : (N : Int) ≤ (c : Int) := by omega
  have HA := Lib.hid hA
  have hN20 : N ≤ 20 := by omega
  clear hA hN
  have hsl : Hid (∀ W : World, (Instr.slice 28 (.slice A n c) none (some (.int .i64 (N : Int))) none).run Try.prog W = .ok (.slice A N c) W) := by
    refine Lib.hid fun W => ?_
    cases A with
    | none =>
      obtain ⟨rfl, rfl⟩ := hnil rfl
      obtain rfl : N = 0 := by omega
      go_simp
    | some a => go_simp
  have hslo := hsl.out
  unfold maxLen at hc
  obtain ⟨i0, J0, J1, J2, J3⟩ := info_parts ev_info
  go_enter Try.func4, Try.ntmps4
  go_wp2
  go_loopw [7, 18] (fun v u wr => ∃ q : Nat, q ≤ N ∧ u = .int .i64 q ∧ wr.ownsRow w.heap.size 34 3 v q (flatR (fun i => evV (apEv f i)) q) ∧ Below w.heap.size w wr) (fun _ u _ => N - (intOf u).toNat)
  case atStart => exact ⟨0, by omega, rfl, World.ownsRow_nil _ _ _ _, Below.refl _ _⟩
  case round =>
    obtain ⟨q, hq, rfl, hown, hbel⟩ := hrel
    obtain ⟨O, co, rfl⟩ := own_shape hown
    have HO := Lib.hid hown
    clear hown
    by_cases hlt : q < N
    · obtain ⟨b, off, rfl, hb, hr⟩ := HA.out.one (by omega)
      have o1 : wr.cell? ⟨b, off + q, none⟩ = some (.int .i64 (f q)) := (hbel.cell (p := ⟨b, off + q, none⟩) hb).trans (hr q (by omega))
      have hq0 : (0 : Int) ≤ (q : Int) := by omega
      have hqN : (q : Int) < (N : Int) := by omega
      clear hr
      go_wp2_with (first
        | (go_at_call 11; refine (Cut_any _ _ _ _ (by omega) (by omega) (by omega)).mono ?_; rintro e w1 ⟨rfl, rfl⟩)
        | (at_builtin; go_loud (refine wpList_append_one wr #[.int .i64 (cutI (f q) 0 7), .int .i64 0, .int .i64 0] rfl (.tmp 22) (.tmp 26) 22 rfl w.heap.size 34 i0 (.agg #[.int .i64 0, .int .i64 0, .int .i64 0]) 3 24 Try.underlying22 J0 J1 J2 J3 rfl (by decide) (.slice O q co) q _ rfl HO.out rfl rfl (by simp [Value.oneCell']) (by omega) (by decide) hbel.size ?_); intro g6 cap6 w6 hv6 hg6 hat6 hlt6))
      go_roundw
      case rel => exact ⟨q + 1, by omega, by go_num, by rw [flatR_succ]; exact hv6, below_app hbel hbel.size HO.out (Nat.le_refl _) hg6⟩
      case measure => simp [intOf]; omega
    · obtain rfl : N = q := by omega
      by_cases h0 : N = 0
      · subst h0
        go_wp2_with (go_at_call 9; refine (fact_any _).mono ?_; rintro e w2 ⟨rfl, hb2⟩)
        go_ret
        exact ⟨rfl, hbel.trans (hb2.mono hbel.size)⟩
      · have hN1 : 1 ≤ N := by omega
        have hi1 := cutI_bd (n := x) (lo := 0) (hi := (N : Int) - 1) (by omega)
        have hk1 := cutI_bd (n := y) (lo := 0) (hi := (N : Int) - 1) (by omega)
        obtain ⟨i, hi⟩ : ∃ i : Nat, cutI x 0 ((N : Int) - 1) = i := ⟨(cutI x 0 ((N : Int) - 1)).toNat, by omega⟩
        obtain ⟨k, hk⟩ : ∃ i : Nat, cutI y 0 ((N : Int) - 1) = i := ⟨(cutI y 0 ((N : Int) - 1)).toNat, by omega⟩
        rw [hi] at hi1
        rw [hk] at hk1
        have hiN : i < N := by omega
        have hkN : k < N := by omega
        have HI := Lib.hid hi
        have HK := Lib.hid hk
        clear hi hk
        have hbef := Before_ok O co (apL f N) N i k (apL_len f N) wr (apL_row f HO.out) (own_cap HO.out).1 (own_cap HO.out).2 (apL_code f hN20) hiN hkN
        rw [apL_bef f hiN hkN] at hbef
        obtain ⟨g, cap, hv, _, hltg⟩ := HO.out.form (by omega)
        have hO : O = some ⟨g, 0, none⟩ := by injection hv
        subst hO
        have cI : wr.cell? ⟨g, i * 3, none⟩ = some (.int .i64 (cutI (f i) 0 7)) := by
          have := HO.out.cells (g := g) rfl (i * 3 + 0) (.int .i64 (cutI (f i) 0 7)) (by rw [flatR_get (k := 3) N (fun _ _ => rfl) i 0 hiN (by decide)]; rfl)
          rw [Addr.add_mid, Nat.zero_add] at this
          exact this
        have cK : wr.cell? ⟨g, k * 3, none⟩ = some (.int .i64 (cutI (f k) 0 7)) := by
          have := HO.out.cells (g := g) rfl (k * 3 + 0) (.int .i64 (cutI (f k) 0 7)) (by rw [flatR_get (k := 3) N (fun _ _ => rfl) k 0 hkN (by decide)]; rfl)
          rw [Addr.add_mid, Nat.zero_add] at this
          exact this
        have hi0 : (0 : Int) ≤ (i : Int) := by omega
        have hk0 : (0 : Int) ≤ (k : Int) := by omega
        have hiN' : (i : Int) < (N : Int) := by omega
        have hkN' : (k : Int) < (N : Int) := by omega
        by_cases hlt : i < k
        · have hlt' : decide ((i : Int) < (k : Int)) = true := by simp; omega
          by_cases hs : cutI (f i) 0 7 = cutI (f k) 0 7
          · have hs' : (cutI (f i) 0 7 == cutI (f k) 0 7) = true := by simp [hs]
            rw [show (decide (i < k) && decide (cutI (f i) 0 7 = cutI (f k) 0 7)) = true by simp [hlt, hs]] at hbef
            have HBF := Lib.hid hbef
            clear hbef hs hv
            go_wp2_with (first
              | (go_at_call 11; refine (Cut_any _ _ _ _ (by omega) (by omega) (by omega)).mono ?_; rintro e w1 ⟨rfl, rfl⟩; first | rw [HI.out] | rw [HK.out])
              | (go_at_call 10; refine HBF.out.mono ?_; rintro e w2 ⟨rfl, hb2⟩; obtain ⟨hc2, hf2⟩ := bcell hb2; have hg2 : g < w2.heap.size := Nat.lt_of_lt_of_le hltg hb2.size))
            go_region_held3 (fun W => W.cell? ⟨g, i * 3, none⟩ = some (.int .i64 (cutI (f i) 0 7)) ∧ W.cell? ⟨g, k * 3, none⟩ = some (.int .i64 (cutI (f k) 0 7))) (first | go_keep | exact ⟨(hc2 _ _ hltg).trans cI, (hc2 _ _ hltg).trans cK⟩ | exact ⟨(hc3 _ _ hg2).trans ((hc2 _ _ hltg).trans cI), (hc3 _ _ hg2).trans ((hc2 _ _ hltg).trans cK)⟩) ((go_at_call 9; refine (fact_any _).mono ?_; rintro e w3 ⟨rfl, hb3⟩; obtain ⟨hc3, hf3⟩ := bcell hb3))
            go_wp2
            go_ret
            exact ⟨rfl, hbel.trans ((hb2.drew.trans (hb3.mono (by have := hb2.size; simpa using this))).mono hbel.size)⟩
          · have hs' : (cutI (f i) 0 7 == cutI (f k) 0 7) = false := by simp [hs]
            rw [show (decide (i < k) && decide (cutI (f i) 0 7 = cutI (f k) 0 7)) = false by simp [hs]] at hbef
            have HBF := Lib.hid hbef
            clear hbef hs hv
            go_wp2_with (first
              | (go_at_call 11; refine (Cut_any _ _ _ _ (by omega) (by omega) (by omega)).mono ?_; rintro e w1 ⟨rfl, rfl⟩; first | rw [HI.out] | rw [HK.out])
              | (go_at_call 10; refine HBF.out.mono ?_; rintro e w2 ⟨rfl, hb2⟩; obtain ⟨hc2, hf2⟩ := bcell hb2; have hg2 : g < w2.heap.size := Nat.lt_of_lt_of_le hltg hb2.size))
            go_region_held3 (fun W => W.cell? ⟨g, i * 3, none⟩ = some (.int .i64 (cutI (f i) 0 7)) ∧ W.cell? ⟨g, k * 3, none⟩ = some (.int .i64 (cutI (f k) 0 7))) (first | go_keep | exact ⟨(hc2 _ _ hltg).trans cI, (hc2 _ _ hltg).trans cK⟩ | exact ⟨(hc3 _ _ hg2).trans ((hc2 _ _ hltg).trans cI), (hc3 _ _ hg2).trans ((hc2 _ _ hltg).trans cK)⟩) ((go_at_call 9; refine (fact_any _).mono ?_; rintro e w3 ⟨rfl, hb3⟩; obtain ⟨hc3, hf3⟩ := bcell hb3))
            go_wp2
            go_ret
            exact ⟨rfl, hbel.trans ((hb2.drew.trans (hb3.mono (by have := hb2.size; simpa using this))).mono hbel.size)⟩
        · have hlt' : decide ((i : Int) < (k : Int)) = false := by simp; omega
          have hltn : decide (i < k) = false := by simp; omega
          rw [show (decide (i < k) && decide (cutI (f i) 0 7 = cutI (f k) 0 7)) = false by simp [hlt]] at hbef
          have HBF := Lib.hid hbef
          clear hbef hv
          go_wp2_with (first
            | (go_at_call 11; refine (Cut_any _ _ _ _ (by omega) (by omega) (by omega)).mono ?_; rintro e w1 ⟨rfl, rfl⟩; first | rw [HI.out] | rw [HK.out])
            | (go_at_call 10; refine HBF.out.mono ?_; rintro e w2 ⟨rfl, hb2⟩; obtain ⟨hc2, hf2⟩ := bcell hb2; have hg2 : g < w2.heap.size := Nat.lt_of_lt_of_le hltg hb2.size))
          refine Dr.region (Dr.Ph (fun W => W = w2.drew) (fun W => Below w2.heap.size w2.drew W)) [0] [(0, 0, true), (1, 1, false), (1, 1, false), (1, 1, false), (1, 1, false), (1, 1, false), (1, 1, false), (1, 1, false), (1, 1, false), (1, 1, false), (1, 1, false), (1, 1, false), (1, 1, false), (1, 1, false), (1, 1, false), (1, 1, false), (1, 1, false), (1, 1, false), (1, 1, false), (1, 1, false), (1, 1, false), (1, 1, false), (1, 1, false), (1, 1, false), (1, 1, false), (1, 1, false)] 1 (by kernel_rfl) (by kernel_rfl) (by kernel_rfl) (by kernel_rfl) (by rfl) ?_
          apply Dr.cons
          · intro k hk1 hk2 w' hw K hK
            obtain rfl : k = 0 := by omega
            obtain rfl : w' = _ := hw
            go_simp
            refine (fact_any _).mono ?_
            rintro e w3 ⟨rfl, hb3⟩
            exact hK _ hb3
          · exact ⟨_, rfl⟩
          iterate 25
            apply Dr.cons
            · intro k hk1 hk2 w' hw K hK
              go_simp
              exact hK _ hw
            · exact ⟨_, rfl⟩
          intro w3 hb3
          have hb3 : Below w2.heap.size w2.drew w3 := hb3
          go_wp2
          go_ret
          exact ⟨rfl, hbel.trans ((hb2.drew.trans (hb3.mono hb2.size)).mono hbel.size)⟩

end Go.Proofs.Ytchpgknaaofapaa
