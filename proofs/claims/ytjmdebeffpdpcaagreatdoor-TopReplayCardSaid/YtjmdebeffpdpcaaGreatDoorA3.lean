/- Package record: Check. -/
import Derived.Test.YtjmdebeffpdpcaaGreatDoorA2
namespace Go.Proofs.YtjmdebeffpdpcaaGreatDoor
open Go.RowKit
open Go.Lib hiding intOf

def chk (e : Ent) : Int :=
  if e.num < 1 ∨ 500 < e.num ∨ e.time < 0 ∨ 200000 < e.time then 4
  else if 120 < e.text.size ∨ 8 < e.kind.size then 2
  else if e.kind.size = 0 ∨ lowS e.kind = false then 6 else 0

theorem chk_ok {e : Ent} : chk e = 0 ↔ Ok e := by
  unfold chk
  constructor
  · intro h
    split at h
    · omega
    · split at h
      · omega
      · split at h
        · omega
        · rename_i h1 h2 h3
          refine ⟨by omega, by omega, by omega, by omega, by rw [size_bl]; omega, by rw [size_bl]; omega, ?_, ?_⟩
          · intro h0
            have := size_bl e.kind
            rw [h0] at this
            simp at this; omega
          · have : lowS e.kind = true := by
              rcases Bool.eq_false_or_eq_true (lowS e.kind) with h' | h'
              · exact h'
              · exact absurd (.inr h') h3
            exact List.all_eq_true.1 this
  · intro h
    have h1 := h.n1; have h2 := h.n2; have h3 := h.t1; have h4 := h.t2; have h5 := h.x; have h6 := h.k
    rw [size_bl] at h5 h6
    have h7 : lowS e.kind = true := List.all_eq_true.2 h.kl
    have h8 : e.kind.size ≠ 0 := by
      intro h0
      rw [← size_bl] at h0
      exact h.k0 (List.length_eq_zero_iff.1 h0)
    rw [if_neg (by omega), if_neg (by omega), if_neg (by rw [h7]; simp [h8])]

def valE (e : Ent) : Value := .agg #[.int .i64 e.num, .int .i64 e.time, .string e.kind, .string e.text]
def cellsE (e : Ent) : Array Value := #[.int .i64 e.num, .int .i64 e.time, .string e.kind, .string e.text]
/-- Its numbers are ints, its texts can be. -/
def Wf (e : Ent) : Prop := (-9223372036854775808 ≤ e.num ∧ e.num ≤ 9223372036854775807) ∧ (-9223372036854775808 ≤ e.time ∧ e.time ≤ 9223372036854775807) ∧ e.kind.size ≤ maxLen ∧ e.text.size ≤ maxLen

def alpha : ByteArray := ⟨#[97, 98, 99, 100, 101, 102, 103, 104, 105, 106, 107, 108, 109, 110, 111, 112, 113, 114, 115, 116, 117, 118, 119, 120, 121, 122]⟩

theorem alpha_has {b : UInt8} (h : lower b = true) : (bl alpha).contains b = true := by
  unfold lower at h
  simp only [Bool.and_eq_true, decide_eq_true_eq] at h
  have hb : b = UInt8.ofNat (97 + (b.toNat - 97)) := by
    apply UInt8.toNat_inj.1
    rw [UInt8.toNat_ofNat']
    have := UInt8.toNat_lt b
    omega
  have hall : ∀ n : Fin 26, (bl alpha).contains (UInt8.ofNat (97 + n.val)) = true := by decide
  rw [hb]
  exact hall ⟨b.toNat - 97, by omega⟩

theorem dropWhile_all {α : Type} {p : α → Bool} : ∀ {l : List α}, (∀ b ∈ l, p b = true) → l.dropWhile p = []
  | [], _ => rfl
  | b :: l, h => by rw [List.dropWhile_cons_of_pos (h b (by simp))]; exact dropWhile_all (fun x hx => h x (by simp [hx]))

theorem trim_lower {s : ByteArray} (h : lowS s = true) : trimS (bl s) (bl alpha) = [] := by
  have h' : ∀ b ∈ bl s, (bl alpha).contains b = true := fun b hb => alpha_has (List.all_eq_true.1 h b hb)
  unfold trimS trimRightS trimLeftS
  rw [dropWhile_all (l := (bl s).reverse) (fun b hb => h' b (List.mem_reverse.1 hb))]
  rfl

theorem Trim_any (s : ByteArray) (w : World) (hs : s.size ≤ maxLen) :
    Calls Tryz.prog 44 #[.string s, .string alpha] w fun e w' => e = .returned (.string (mk (trimS (bl s) (bl alpha)))) ∧ Below w.heap.size w w' := by
  unfold maxLen at hs
  exact Any.strings_Trim_laid Tryz.lays160 (by kernel_rfl) s alpha w (by omega) (by decide) (ascii_of_all (by decide))

set_option maxRecDepth 100000 in
set_option maxHeartbeats 2000000 in
theorem CheckE_any (e : Ent) (w : World) (hw : Wf e) :
    Calls Tryz.prog 29 #[valE e] w fun x w' => x = .returned (.int .i64 (chk e)) ∧ Below w.heap.size w w' := by
  obtain ⟨n, t, k, x⟩ := e
  obtain ⟨⟨a1, a2⟩, ⟨b1, b2⟩, hk, hx⟩ := hw
  simp only at a1 a2 b1 b2 hk hx
  have HT := Lib.hid (fun W => Trim_any k W hk)
  have HS := Lib.hid (fun W => small_any k W hk)
  unfold maxLen at hk hx
  have fin : ∀ W : World, Below w.heap.size (w.alloc (.cells #[.int .i64 n, .int .i64 t, .string k, .string x] 48)) W → Below w.heap.size w W := fun _ h => ((Below.refl _ w).alloc (Nat.le_refl _) _).trans h
  have HF := Lib.hid fin
  clear fin
  unfold valE
  by_cases h1 : n < 1 ∨ 500 < n ∨ t < 0 ∨ 200000 < t
  · have hc : chk ⟨n, t, k, x⟩ = 4 := by unfold chk; rw [if_pos h1]
    have HC := Lib.hid hc
    have hb : (decide (n < 1) || decide (500 < n) || decide (t < 0) || decide (200000 < t)) = true := by simp; omega
    clear hc
    have ht : (n < 1) ∨ (¬ n < 1 ∧ 500 < n) ∨ (¬ n < 1 ∧ ¬ 500 < n ∧ t < 0) ∨ (¬ n < 1 ∧ ¬ 500 < n ∧ ¬ t < 0 ∧ 200000 < t) := by omega
    clear h1 hb
    rcases ht with h | ⟨g1, h⟩ | ⟨g1, g2, h⟩ | ⟨g1, g2, g3, h⟩
    all_goals
      go_enter Tryz.func29, Tryz.ntmps29
      go_wp2
      go_ret
      exact ⟨by rw [HC.out]; rfl, HF.out _ (Below.refl _ _)⟩
  · have g1 : ¬ n < 1 := by omega
    have g2 : ¬ 500 < n := by omega
    have g3 : ¬ t < 0 := by omega
    have g4 : ¬ 200000 < t := by omega
    by_cases h2 : 120 < x.size ∨ 8 < k.size
    · have hc : chk ⟨n, t, k, x⟩ = 2 := by unfold chk; rw [if_neg h1, if_pos h2]
      have HC := Lib.hid hc
      have ht : (120 < x.size) ∨ (¬ 120 < x.size ∧ 8 < k.size) := by omega
      clear h1 h2 hc
      rcases ht with h | ⟨g, h⟩
      all_goals
        go_enter Tryz.func29, Tryz.ntmps29
        go_wp2
        go_ret
        exact ⟨by rw [HC.out]; rfl, HF.out _ (Below.refl _ _)⟩
    · have g5 : ¬ 120 < x.size := by omega
      have g6 : ¬ 8 < k.size := by omega
      by_cases h3 : k.size = 0
      · have hc : chk ⟨n, t, k, x⟩ = 6 := by unfold chk; rw [if_neg h1, if_neg h2, if_pos (.inl h3)]
        have HC := Lib.hid hc
        have hkl : k.toList = [] := by
          rw [ByteArray.toList_eq]
          have := size_bl k
          exact List.length_eq_zero_iff.1 (this.trans h3)
        clear h1 h2 hc h3
        go_enter Tryz.func29, Tryz.ntmps29
        go_wp2
        go_ret
        exact ⟨by rw [HC.out]; rfl, HF.out _ (Below.refl _ _)⟩
      · have hkl : k.toList.isEmpty = false := by
          rw [ByteArray.toList_eq]
          cases hh : k.data.toList with
          | nil => exact absurd ((size_bl k).symm.trans (by rw [show bl k = k.data.toList from rfl, hh]; rfl)) h3
          | cons => rfl
        have hkl2 : ¬ k.toList = [] := by intro e; rw [e] at hkl; cases hkl
        obtain ⟨T, hT⟩ : ∃ T, mk (trimS (bl k) (bl alpha)) = T := ⟨_, rfl⟩
        obtain ⟨lw, hlw⟩ : ∃ lw, lowS k = lw := ⟨_, rfl⟩
        have hT2 : lw = true → T.toList = [] := fun h => by rw [← hT, trim_lower (hlw.trans h), toList_mk]
        rw [hT] at HT
        rw [hlw] at HS
        cases lw with
        | true =>
          have hTe := hT2 rfl
          have hc : chk ⟨n, t, k, x⟩ = 0 := by unfold chk; rw [if_neg h1, if_neg h2, if_neg (by rw [hlw]; simp [h3])]
          have HC := Lib.hid hc
          clear h1 h2 hc h3 hT hlw hT2
          unfold alpha at HT
          go_enter Tryz.func29, Tryz.ntmps29
          go_wp2_with (first
            | (go_at_call 44; refine (HT.out _).mono ?_; rintro e w1 ⟨rfl, hb1⟩; obtain ⟨hc1, hf1⟩ := bcell hb1)
            | (go_at_call 45; refine (HS.out _).mono ?_; rintro e w2 ⟨rfl, rfl⟩))
          go_ret
          exact ⟨by rw [HC.out]; rfl, HF.out _ (hb1.mono (by simp))⟩
        | false =>
          have hc : chk ⟨n, t, k, x⟩ = 6 := by unfold chk; rw [if_neg h1, if_neg h2, if_pos (.inr hlw)]
          have HC := Lib.hid hc
          clear h1 h2 hc h3 hT hlw hT2
          unfold alpha at HT
          by_cases hTe : T.toList = []
          · go_enter Tryz.func29, Tryz.ntmps29
            go_wp2_with (first
              | (go_at_call 44; refine (HT.out _).mono ?_; rintro e w1 ⟨rfl, hb1⟩; obtain ⟨hc1, hf1⟩ := bcell hb1)
              | (go_at_call 45; refine (HS.out _).mono ?_; rintro e w2 ⟨rfl, rfl⟩))
            go_ret
            exact ⟨by rw [HC.out]; rfl, HF.out _ (hb1.mono (by simp))⟩
          · have hTb : T.toList.isEmpty = false := by
              cases hh : T.toList with
              | nil => exact absurd hh hTe
              | cons => rfl
            go_enter Tryz.func29, Tryz.ntmps29
            go_wp2_with (first
              | (go_at_call 44; refine (HT.out _).mono ?_; rintro e w1 ⟨rfl, hb1⟩; obtain ⟨hc1, hf1⟩ := bcell hb1)
              | (go_at_call 45; refine (HS.out _).mono ?_; rintro e w2 ⟨rfl, rfl⟩))
            go_ret
            exact ⟨by rw [HC.out]; rfl, HF.out _ (hb1.mono (by simp))⟩
end Go.Proofs.YtjmdebeffpdpcaaGreatDoor
