/- What All finds, in plain words. -/
import Derived.Test.YtdmecagdjbjgjaaR36
import Derived.Test.YtdmecagdjbjgjaaR32
namespace Go.Proofs.Ytdmecagdjbjgjaa
open Go.RowKit

theorem ddN_in {f : Nat → Al} {x : Al} : ∀ k, x ∈ ddN f k → ∃ i, i < k ∧ x = f i
  | 0, h => by cases h
  | k + 1, h => by
    unfold ddN at h
    split at h
    · obtain ⟨i, h1, h2⟩ := ddN_in k h
      exact ⟨i, by omega, h2⟩
    · rcases List.mem_append.1 h with h | h
      · obtain ⟨i, h1, h2⟩ := ddN_in k h
        exact ⟨i, by omega, h2⟩
      · exact ⟨k, by omega, List.mem_singleton.1 h⟩
theorem ddN_has {f : Nat → Al} : ∀ k i, i < k → f i ∈ ddN f k
  | 0, _, h => absurd h (by omega)
  | k + 1, i, h => by
    unfold ddN
    by_cases he : 1 ≤ k ∧ f k = f (k - 1)
    · rw [if_pos he]
      rcases Nat.lt_or_ge i k with h1 | h1
      · exact ddN_has k i h1
      · obtain rfl : i = k := by omega
        rw [he.2]
        exact ddN_has i (i - 1) (by omega)
    · rw [if_neg he]
      rcases Nat.lt_or_ge i k with h1 | h1
      · exact List.mem_append_left _ (ddN_has k i h1)
      · obtain rfl : i = k := by omega
        exact List.mem_append_right _ (List.mem_singleton.2 rfl)
theorem AllL_mem {L R : List Al} (h : AllL L R) (x : Al) : x ∈ R ↔ x ∈ L := by
  obtain ⟨S, hp, _, rfl⟩ := h
  rw [← hp.mem_iff]
  constructor
  · intro hx
    obtain ⟨i, h1, rfl⟩ := ddN_in _ hx
    rw [getElem!_pos S i h1]
    exact List.getElem_mem _
  · intro hx
    obtain ⟨i, h1, rfl⟩ := List.getElem_of_mem hx
    have := ddN_has (f := fun i => S[i]!) S.length i h1
    rwa [getElem!_pos S i h1] at this
/-- Neighbours: the later one is not the same and not more urgent. -/
def Nb (L : List Al) : Prop := ∀ i, i + 1 < L.length → L[i + 1]! ≠ L[i]! ∧ L[i + 1]!.l ≤ L[i]!.l
theorem ddN_nb {f : Nat → Al} : ∀ k, (∀ i, i + 1 < k → (f (i + 1)).l ≤ (f i).l) → Nb (ddN f k) ∧ (0 < k → ∃ L, ddN f k = L ++ [f (k - 1)])
  | 0, _ => ⟨fun i h => absurd h (Nat.not_lt_zero _), fun h => absurd h (by omega)⟩
  | k + 1, h => by
    obtain ⟨h1, h2⟩ := ddN_nb k (fun i hi => h i (by omega))
    unfold ddN
    by_cases he : 1 ≤ k ∧ f k = f (k - 1)
    · rw [if_pos he]
      refine ⟨h1, fun _ => ?_⟩
      obtain ⟨L, hL⟩ := h2 (by omega)
      exact ⟨L, by rw [hL, Nat.add_sub_cancel, he.2]⟩
    · rw [if_neg he]
      refine ⟨fun i hi => ?_, fun _ => ⟨ddN f k, rfl⟩⟩
      rw [List.length_append, List.length_singleton] at hi
      rcases Nat.lt_or_ge (i + 1) (ddN f k).length with hlt | hge
      · have e1 : (ddN f k ++ [f k])[i + 1]! = (ddN f k)[i + 1]! := by
          rw [getElem!_pos (ddN f k ++ [f k]) (i + 1) (by rw [List.length_append]; omega), getElem!_pos (ddN f k) (i + 1) hlt, List.getElem_append_left]
        have e2 : (ddN f k ++ [f k])[i]! = (ddN f k)[i]! := by
          rw [getElem!_pos (ddN f k ++ [f k]) i (by rw [List.length_append]; omega), getElem!_pos (ddN f k) i (by omega), List.getElem_append_left]
        rw [e1, e2]
        exact h1 i hlt
      · have hk : 0 < k := by
          rcases Nat.eq_zero_or_pos k with h0 | h0
          · subst h0; simp [ddN] at hi
          · exact h0
        obtain ⟨L, hL⟩ := h2 hk
        have hlen : (ddN f k).length = L.length + 1 := by rw [hL]; simp
        have hil : i = L.length := by omega
        have e1 : (ddN f k ++ [f k])[i + 1]! = f k := by
          rw [getElem!_pos (ddN f k ++ [f k]) (i + 1) (by rw [List.length_append, List.length_singleton]; omega), List.getElem_append_right (by omega)]
          simp
        have e2 : (ddN f k ++ [f k])[i]! = f (k - 1) := by
          rw [getElem!_pos (ddN f k ++ [f k]) i (by rw [List.length_append]; omega), List.getElem_append_left (by omega)]
          simp only [hL, hil]
          simp
        rw [e1, e2]
        refine ⟨fun e => he ⟨hk, e⟩, ?_⟩
        have := h (k - 1) (by omega)
        rwa [show k - 1 + 1 = k by omega] at this
theorem AllL_nb {L R : List Al} (h : AllL L R) : Nb R := by
  obtain ⟨S, hp, hs, rfl⟩ := h
  refine (ddN_nb S.length (fun i hi => ?_)).1
  have h1 := hs i (i + 1) (by omega) hi
  have h2 : ¬ cfA S[i + 1]! S[i]! < 0 := by omega
  rw [cfA_lt] at h2
  show S[i + 1]!.l ≤ S[i]!.l
  by_cases h3 : S[i]!.l < S[i + 1]!.l
  · exact absurd (Or.inl h3) h2
  · omega

theorem rules_fn {w : World} {v : Value} {Rl : List Value} (hr : ∀ r ∈ Rl, RuM w v r) : ∃ (AF : Nat → Sc → List Al) (nm : Nat → ByteArray), ∀ i, i < Rl.length → RuG w Rl[i]! (AF i) (nm i) ∧ Good (AF i) (nm i) := by
  have hex : ∀ i, ∃ (p : (Sc → List Al) × ByteArray), i < Rl.length → RuG w Rl[i]! p.1 p.2 ∧ Good p.1 p.2 := fun i => by
    by_cases hi : i < Rl.length
    · obtain ⟨AF, nm, h⟩ := (hr Rl[i] (List.getElem_mem hi)).ok
      exact ⟨(AF, nm), fun _ => by rw [getElem!_pos Rl i hi]; exact h⟩
    · exact ⟨(fun _ => [], ⟨#[]⟩), fun h => absurd h hi⟩
  exact ⟨fun i => (hex i).choose.1, fun i => (hex i).choose.2, fun i hi => (hex i).choose_spec hi⟩

theorem flA_le {LL : Nat → List Al} {s : Nat} : ∀ n, (∀ i, i < n → (LL i).length ≤ s) → (flA LL n).length ≤ n * s := flA_len
/-- All, of rules that several makes. -/
theorem All_sev (A : Option Addr) (m c : Nat) (Rl : List Value) (AF : Nat → Sc → List Al) (nm : Nat → ByteArray) (s : Sc) (w : World) (hS : ∀ W, Below w.heap.size w W → s.at_ W W.heap.size) (hA : Sl w w.heap.size 1 A m (fun i => [Rl[i]!])) (_hl : Rl.length = m) (hm : m ≤ 16)
    (hR : ∀ i, i < m → RuG w Rl[i]! (AF i) (nm i) ∧ Good (AF i) (nm i)) (hc : checkE s = 0) :
    Calls Try.prog 16 #[.slice A m c, s.val] w fun E w' => (∃ (V : Option Addr) (cv : Nat) (R : List Al), E = .returned (.tuple #[.slice V R.length cv, .int .i64 0]) ∧ AllL (flA (fun i => AF i s) m) R ∧ w'.ownsRow w.heap.size 51 4 (.slice V R.length cv) R.length (rowsV alL R)) ∧ Below w.heap.size w w' := by
  refine (All_any A m c (fun i => Rl[i]!) (fun i => AF i s) s w (hS w (Below.refl _ _)) hA hm (fun _ i hi => .inr ((hR i hi).1.ok s hS)) (fun _ i hi => (hR i hi).2.len s)).mono ?_
  rintro E w' ⟨h, hb⟩
  refine ⟨?_, hb⟩
  rcases h with ⟨h, _⟩ | ⟨_, ⟨i, hi, h⟩, _⟩ | ⟨_, _, h⟩
  · exact absurd hc h
  · have h : Rl[i]! = .nilIface := h
    rcases (hR i hi).1 with ⟨_, _, _, e, _⟩ | ⟨_, _, _, e, _⟩ <;> (rw [e] at h; cases h)
  · exact h
theorem All_bad (A : Option Addr) (m c : Nat) (R : Nat → Value) (s : Sc) (w : World) (hS : s.at_ w w.heap.size) (hA : Sl w w.heap.size 1 A m (fun i => [R i])) (hm : m ≤ 16) (hc : checkE s ≠ 0) :
    Calls Try.prog 16 #[.slice A m c, s.val] w fun E w' => E = .returned (.tuple #[.slice none 0 0, .int .i64 (checkE s)]) ∧ Below w.heap.size w w' := by
  refine (All_any A m c R (fun _ => []) s w hS hA hm (fun h => absurd h hc) (fun h => absurd h hc)).mono ?_
  rintro E w' ⟨h, hb⟩
  refine ⟨?_, hb⟩
  rcases h with ⟨_, h⟩ | ⟨h, _⟩ | ⟨h, _⟩
  · exact h
  · exact absurd h hc
  · exact absurd h hc
theorem All_nil (A : Option Addr) (c : Nat) (s : Sc) (w : World) (hS : s.at_ w w.heap.size) (hA : Sl w w.heap.size 1 A 1 (fun _ => [.nilIface])) (hc : checkE s = 0) :
    Calls Try.prog 16 #[.slice A 1 c, s.val] w fun E w' => E = .returned (.tuple #[.slice none 0 0, .int .i64 1]) ∧ Below w.heap.size w w' := by
  refine (All_any A 1 c (fun _ => .nilIface) (fun _ => []) s w hS hA (by omega) (fun _ i hi => .inl rfl) (fun _ i hi => by simp)).mono ?_
  rintro E w' ⟨h, hb⟩
  refine ⟨?_, hb⟩
  rcases h with ⟨h, _⟩ | ⟨_, _, h⟩ | ⟨_, h, _⟩
  · exact absurd hc h
  · exact h
  · exact absurd ⟨0, by omega, rfl⟩ h
end Go.Proofs.Ytdmecagdjbjgjaa
