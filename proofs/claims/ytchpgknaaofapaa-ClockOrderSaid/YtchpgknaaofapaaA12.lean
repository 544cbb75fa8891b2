/- The walk of ClockFront. -/
import Derived.Test.YtchpgknaaofapaaA9
namespace Go.Proofs.Ytchpgknaaofapaa
open Go.RowKit

theorem take_at {l : List Ev} {k i : Nat} (hk : k ≤ l.length) (hi : i < k) : (l.take k)[i]! = l[i]! := by
  rw [getElem!_pos _ i (by rw [List.length_take]; omega), getElem!_pos l i (by omega), List.getElem_take]
theorem take_sj {l : List Ev} {k i : Nat} (hk : k ≤ l.length) (hi : i < k) : sa (l.take k) i = sa l i ∧ (rc (l.take k) i = true → sj (l.take k) i = sj l i) ∧ rc (l.take k) i = rc l i := by
  unfold sa sj rc
  rw [take_at hk hi, List.take_take, Nat.min_eq_left (by omega)]
  exact ⟨rfl, fun _ => rfl, rfl⟩
theorem take_code {l : List Ev} (h : checkE l = 0) {k : Nat} (hk : k ≤ l.length) : checkE (l.take k) = 0 := by
  obtain ⟨h1, h2⟩ := code_inv h
  have hl : (l.take k).length = k := by rw [List.length_take]; omega
  unfold checkE
  rw [hl, if_neg (by omega)]
  refine checkFrom_all fun i _ hi => ?_
  have := h2 i (by omega)
  unfold evE at this ⊢
  rw [take_at hk (by omega), List.take_take, Nat.min_eq_left (by omega)]
  exact this
theorem take_Lv {l : List Ev} {k i : Nat} (hk : k ≤ l.length) (hi : i < k) : LvE (l.take k) i = LvE l i := by
  unfold LvE Clk.Lv
  rw [Clk.lst_congr (i + 1) (fun j hj => take_sj hk (by omega))]
theorem take_Vv {l : List Ev} {k i : Nat} (hk : k ≤ l.length) (hi : i < k) (s : Nat) : VvE (l.take k) i s = VvE l i s := by
  unfold VvE Clk.Vv
  rw [Clk.vst_congr (i + 1) (fun j hj => take_sj hk (by omega))]

theorem slice_to22 (A : Option Addr) (n c q : Nat) (hq : q ≤ c) (hc : c ≤ maxLen) (hnil : A = none → n = 0 ∧ c = 0) (W : World) : (Instr.slice 22 (.slice A n c) none (some (.int .i64 (q : Int))) none).run Try.prog W = .ok (.slice A q c) W := by
  unfold maxLen at hc
  have h0 : (0 : Int) ≤ (q : Int) := by omega
  have h1 : (q : Int) ≤ (c : Int) := by omega
  cases A with
  | none =>
    obtain ⟨rfl, rfl⟩ := hnil rfl
    obtain rfl : q = 0 := by omega
    go_simp
  | some a => go_simp
theorem slice_to28 (A : Option Addr) (n c q : Nat) (hq : q ≤ c) (hc : c ≤ maxLen) (hnil : A = none → n = 0 ∧ c = 0) (W : World) : (Instr.slice 28 (.slice A n c) none (some (.int .i64 (q : Int))) none).run Try.prog W = .ok (.slice A q c) W := by
  unfold maxLen at hc
  have h0 : (0 : Int) ≤ (q : Int) := by omega
  have h1 : (q : Int) ≤ (c : Int) := by omega
  cases A with
  | none =>
    obtain ⟨rfl, rfl⟩ := hnil rfl
    obtain rfl : q = 0 := by omega
    go_simp
  | some a => go_simp
theorem slice_to23 (A : Option Addr) (n c q : Nat) (hq : q ≤ c) (hc : c ≤ maxLen) (hnil : A = none → n = 0 ∧ c = 0) (W : World) : (Instr.slice 23 (.slice A n c) none (some (.int .i64 (q : Int))) none).run Try.prog W = .ok (.slice A q c) W := by
  unfold maxLen at hc
  have h0 : (0 : Int) ≤ (q : Int) := by omega
  have h1 : (q : Int) ≤ (c : Int) := by omega
  cases A with
  | none =>
    obtain ⟨rfl, rfl⟩ := hnil rfl
    obtain rfl : q = 0 := by omega
    go_simp
  | some a => go_simp

/-- Two lists of rows, alike. -/
structure RowsAt (w : World) (a n : Nat) (V : Nat → Nat → Int) : Prop where
  lt : a < w.heap.size
  row : ∀ i, i < n → ∃ g cap, g < w.heap.size ∧ w.cell? ⟨a, i, none⟩ = some (.slice (some ⟨g, 0, none⟩) 8 cap) ∧ ∀ s, s < 8 → w.cell? ⟨g, s, none⟩ = some (.int .i64 (V i s))
theorem RowsAt.below {w w' : World} {a n : Nat} {V : Nat → Nat → Int} (h : RowsAt w a n V) (hb : Below w.heap.size w w') : RowsAt w' a n V :=
  ⟨Nat.lt_of_lt_of_le h.lt hb.size, fun i hi => by
    obtain ⟨g, cap, h1, h2, h3⟩ := h.row i hi
    exact ⟨g, cap, Nat.lt_of_lt_of_le h1 hb.size, (hb.cell (p := ⟨a, i, none⟩) h.lt).trans h2, fun s hs => (hb.cell (p := ⟨g, s, none⟩) h1).trans (h3 s hs)⟩⟩

theorem sl8' {w : World} {g B : Nat} {f : Nat → Int} (h : ∀ s, s < 8 → w.cell? ⟨g, s, none⟩ = some (.int .i64 (f s))) (hg : g < B) : Sl w B 1 (some ⟨g, 0, none⟩) 8 (fun i => [.int .i64 (f i)]) := fun _ =>
  ⟨g, 0, rfl, hg, fun i hi j v hj => by
    have hj0 : j = 0 := by
      rcases Nat.eq_zero_or_pos j with h | h
      · exact h
      · rw [List.getElem?_eq_none (by simp; omega)] at hj; cases hj
    subst hj0
    simp only [List.getElem?_cons_zero, Option.some.injEq] at hj
    rw [← hj, Nat.mul_one, Nat.zero_add, Nat.add_zero]
    exact h i hi⟩

theorem Front1_any (A B : Option Addr) (c d N : Nat) (f g : Nat → Int) (w : World) (hA : Sl w N 1 A 8 (fun i => [.int .i64 (f i)])) (hB : Sl w N 1 B 8 (fun i => [.int .i64 (g i)])) (h : ∀ s, s < 8 → f s = g s) :
    Calls Try.prog 15 #[.slice A 8 c, .slice B 8 d] w fun e w' => e = .returned (.bool true) ∧ Below w.heap.size w w' := by
  have hcon := Equal_any A B 8 8 c d N f g w hA hB (by decide) (by decide)
  rw [eqB_true rfl h] at hcon
  clear hA hB h
  go_enter Try.func15, Try.ntmps15
  go_wp2_with (go_at_call 13; refine hcon.mono ?_; rintro e w1 ⟨rfl, hb1⟩)
  go_ret
  exact ⟨rfl, hb1⟩

set_option maxHeartbeats 1000000 in
theorem EqF_zero (A B : Option Addr) (c d : Nat) (w : World) :
    Calls Try.prog 14 #[.slice A 0 c, .slice B 0 d, .func (.func 15) #[] #[]] w fun e w' => e = .returned (.bool true) ∧ Below w.heap.size w w' := by
  go_enter Try.func14, Try.ntmps14
  go_wp2
  go_loop [17] (fun k => k = .int .i64 (0 : Nat)) (fun _ => 0)
  case atStart => rfl
  case round =>
    obtain rfl := hrel
    go_wp2
    go_ret
    exact ⟨rfl, Below.refl _ _⟩

set_option maxHeartbeats 2000000 in
theorem EqF_any (a b n c d : Nat) (V V' : Nat → Nat → Int) (w : World) (hA : RowsAt w a n V) (hB : RowsAt w b n V') (h : ∀ i, i < n → ∀ s, s < 8 → V i s = V' i s) (hn : n ≤ 1000) :
    Calls Try.prog 14 #[.slice (some ⟨a, 0, none⟩) n c, .slice (some ⟨b, 0, none⟩) n d, .func (.func 15) #[] #[]] w fun e w' => e = .returned (.bool true) ∧ Below w.heap.size w w' := by
  have H := Lib.hid h
  clear h
  go_enter Try.func14, Try.ntmps14
  go_wp2
  go_loopw [17] (fun k wr => ∃ j : Nat, j ≤ n ∧ k = .int .i64 j ∧ RowsAt wr a n V ∧ RowsAt wr b n V' ∧ Below w.heap.size w wr) (fun k _ => n - (intOf k).toNat)
  case atStart => exact ⟨0, by omega, rfl, hA, hB, Below.refl _ _⟩
  case round =>
    obtain ⟨j, hj, rfl, hA, hB, hbel⟩ := hrel
    by_cases hlt : j < n
    · obtain ⟨g, cg, hg, r1, r2⟩ := hA.row j hlt
      obtain ⟨g', cg', hg', r3, r4⟩ := hB.row j hlt
      have hcon := Front1_any (some ⟨g, 0, none⟩) (some ⟨g', 0, none⟩) cg cg' wr.heap.size (V j) (V' j) wr (sl8' r2 hg) (sl8' r4 hg') (H.out j hlt)
      have HA := Lib.hid hA
      have HB := Lib.hid hB
      have hj0 : (0 : Int) ≤ (j : Int) := by omega
      have hjn : (j : Int) < (n : Int) := by omega
      clear r2 r4 hA hB
      go_wp2_with (go_at_call 15; refine hcon.mono ?_; rintro e w1 ⟨rfl, hb1⟩)
      go_roundw
      case rel => exact ⟨j + 1, by omega, by go_num, HA.out.below hb1, HB.out.below hb1, hbel.trans (hb1.mono hbel.size)⟩
      case measure => simp [intOf]; omega
    · obtain rfl : n = j := by omega
      clear hA hB
      go_wp2
      go_ret
      exact ⟨rfl, hbel⟩
end Go.Proofs.Ytchpgknaaofapaa
