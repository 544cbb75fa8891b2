/- Laws of the season: what they share. -/
import Derived.Test.YtaebebpldkciiaaGreatDoorS16
import Derived.Test.YtaebebpldkciiaaGreatDoorG12
namespace Go.Proofs.YtaebebpldkciiaaGreatDoor
open Go.RowKit

theorem takePk {A : Option Addr} {c : Nat} (n q : Nat) (hq : q ≤ n) (hn : n ≤ c) (hc : c ≤ maxLen) (hnil : A = none → n = 0 ∧ c = 0) : ∃ A2 c2, (∀ W, (Instr.slice 29 (.slice A n c) none (some (.int .i64 (q : Int))) none).run Tryz.prog W = .ok (.slice A2 q c2) W) ∧ (0 < q → A2 = A) := by
  unfold maxLen at hc
  have h0 : (0 : Int) ≤ (q : Int) := by omega
  have h1 : (q : Int) ≤ (n : Int) := by omega
  have h2 : (n : Int) ≤ (c : Int) := by omega
  have h3 : (q : Int) ≤ (c : Int) := by omega
  have c23 : Tryz.prog.cellsOf 3 = 1 := by kernel_rfl
  cases A with
  | none =>
    obtain ⟨rfl, rfl⟩ := hnil rfl
    obtain rfl : q = 0 := by omega
    refine ⟨none, 0, fun W => ?_, fun h => absurd h (by omega)⟩
    go_simp
  | some a =>
    refine ⟨if c = 0 then some a else some (a.add (0 * 1)), c, fun W => ?_, fun hq0 => ?_⟩
    · go_simp
    · rw [if_neg (by omega)]; simp [Addr.add]
theorem Sl.first {w : World} {B k : Nat} {A A2 : Option Addr} {n q : Nat} {row : Nat → List Value} (h : Sl w B k A n row) (hq : q ≤ n) (hA : 0 < q → A2 = A) : Sl w B k A2 q row := fun h0 => by
  obtain ⟨b, off, e, hb, hr⟩ := h (by omega)
  exact ⟨b, off, (hA h0).trans e, hb, fun i hi => hr i (by omega)⟩
theorem take_at {α : Type} [Inhabited α] (l : List α) {q i : Nat} (h : i < q) : (l.take q)[i]! = l[i]! := by
  simp only [getElem!_def, List.getElem?_take, if_pos h]
theorem InsA.first {N n q : Nat} {A A2 : Option Addr} {l : List Inp} {hs : List Hd} {w : World} (h : InsA N A n l hs w) (hq : q ≤ n) (hA : 0 < q → A2 = A) : InsA N A2 q (l.take q) (hs.take q) w := by
  refine ⟨by rw [List.length_take, h.ln]; omega, by rw [List.length_take, h.hn]; omega, fun h0 => ?_, fun i hi => ?_, fun i hi => ?_⟩
  · obtain ⟨b, off, e, hb, hr⟩ := h.row.first hq hA h0
    refine ⟨b, off, e, hb, fun i hi => ?_⟩
    have h1 := hr i hi
    show w.rangeAt b (off + i * 9) (inV (l.take q)[i]! (hs.take q)[i]!)
    rw [take_at l hi, take_at hs hi]
    exact h1
  · rw [take_at l hi, take_at hs hi]; exact h.tube i (by omega)
  · rw [take_at l hi]; exact h.bd i (by omega)
theorem seaP_mono (ks : Nat → ByteArray) (S : Su) (l : List Inp) : ∀ (n : Nat) (t : Int) (s : Se), s.s ≤ (seaP ks S l n t s).s
  | 0, _, _ => Nat.le_refl _
  | n + 1, t, s => by
    unfold seaP
    split
    · have h1 := seaP_mono ks S l n (t + 1) (secS t (feedT ks S l t s))
      have h2 : ∀ m (q : Se), (feedN ks S l t m q).s = q.s := fun m => by
        induction m with
        | zero => exact fun _ => rfl
        | succ m ih =>
          intro q
          unfold feedN
          split
          · rw [ih]; rfl
          · rfl
      have h3 : (secS t (feedT ks S l t s)).s = s.s + 1 := by show (feedT ks S l t s).s + 1 = _; unfold feedT; rw [h2]
      omega
    · exact Nat.le_refl _
theorem runP_pos (ks : Nat → ByteArray) (S : Su) (l : List Inp) : 0 < (runP ks S l).s := by
  unfold runP
  show 0 < (if _ then _ else _ : Se).s
  rw [if_pos (.inr (by decide))]
  refine Nat.lt_of_lt_of_le (Nat.succ_pos _) (seaP_mono ks S l 999 _ (secS 0 (feedT ks S l 0 newS)))
/-- The arguments of a law. -/
structure SArg (l : List Inp) (hs : List Hd) (A : Option Addr) (n cA : Nat) (w : World) : Prop where
  ins : InsA w.heap.size A n l hs w
  cap : n ≤ cA ∧ cA ≤ maxLen
  nil : A = none → n = 0 ∧ cA = 0
structure PArg (pk : Nat → Int) (A : Option Addr) (n c : Nat) (w : World) : Prop where
  row : Sl w w.heap.size 1 A n (fun i => [.int .i64 (pk i)])
  cap : n ≤ c ∧ c ≤ maxLen
  nil : A = none → n = 0 ∧ c = 0
theorem SArg.below {l : List Inp} {hs : List Hd} {A : Option Addr} {n cA : Nat} {w w' : World} (h : SArg l hs A n cA w) (hb : Below w.heap.size w w') : InsA w'.heap.size A n l hs w' := by
  have h1 := h.ins.below hb
  exact ⟨h1.ln, h1.hn, h1.row.more hb.size, fun i hi => ⟨(h1.tube i hi).1, (h1.tube i hi).2.more hb.size⟩, h1.bd⟩
/-- What Run answers, in one form. -/
def RunVal (S : Su) (l : List Inp) (a b c d kk : Int) : Prop :=
  (suE S = 0 ∧ kk = 0 ∧ a = (runP kindsS S l).s ∧ b = (runP kindsS S l).fl ∧ c = (runP kindsS S l).a ∧ d = (runP kindsS S l).r) ∨ (suE S ≠ 0 ∧ kk = suE S ∧ a = 0 ∧ b = 0 ∧ c = 0 ∧ d = 0)
def RunG (S : Su) (l : List Inp) (w : World) (e : Ending) (w' : World) : Prop := ∃ a b c d kk : Int, e = .returned (.tuple #[.agg #[.int .i64 a, .int .i64 b, .int .i64 0, .int .i64 0, .int .i64 0, .int .i64 0, .int .i64 c, .int .i64 d], .int .i64 kk]) ∧ RunVal S l a b c d kk ∧ Below w.heap.size w w'
/-- Run at the first inputs and picks. -/
theorem Run_first {S : Su} {l : List Inp} {hs : List Hd} {A A2 : Option Addr} {n cA q c2 : Nat} {pk : Nat → Int} {pA pA2 : Option Addr} {pn pc r c3 : Nat} {w W : World} (hW : SeaW w) (hI : SArg l hs A n cA w) (hP : PArg pk pA pn pc w) (hb : Below w.heap.size w W) (hq : q ≤ n) (hq16 : q ≤ 16) (hr : r ≤ pn) (hr256 : r ≤ 256) (hA : 0 < q → A2 = A) (hpA : 0 < r → pA2 = pA) :
    Calls Tryz.prog 11 #[suA S, .slice A2 q c2, .slice pA2 r c3] W (RunG S (l.take q) W) := by
  have hW' := hW.below hb
  refine (Run_any S (l.take q) (hs.take q) q A2 c2 pA2 r c3 pk W hW'.ks hW'.pos ((hI.below hb).first hq hA) hq16 (((hP.row.below hb).more hb.size).first hr hpA) hr256 hW'.tab).mono ?_
  rintro e w' ⟨h1, h2⟩
  by_cases hE : suE S = 0
  · rw [if_pos hE] at h1
    exact ⟨_, _, _, _, 0, h1, .inl ⟨hE, rfl, rfl, rfl, rfl, rfl⟩, h2⟩
  · rw [if_neg hE] at h1
    exact ⟨0, 0, 0, 0, _, h1, .inr ⟨hE, rfl, rfl, rfl, rfl, rfl⟩, h2⟩
end Go.Proofs.YtaebebpldkciiaaGreatDoor
