/- Package season: a second, plain words. -/
import Derived.Test.YtaebebpldkciiaaGreatDoorQS7
import Derived.Test.YtaebebpldkciiaaGreatDoorQS8
import Derived.Test.YtaebebpldkciiaaGreatDoorQB4
namespace Go.Proofs.YtaebebpldkciiaaGreatDoor
open Go.RowKit
theorem places_len (f : Fl) (t : Int) : (placesP f t).length ≤ 2 := by
 have h1 : ∀ l t, (nodeAt l t).length ≤ 1 := fun l t => by unfold nodeAt; split <;> simp
 have h2 : (legP f.legs t).length ≤ 1 := by
  unfold legP
  split
  ·simp
  ·exact h1 _ _
 unfold placesP
 rw [List.length_append]
 have := h1 f.next t
 omega
def seenN (fl : List Fl) (t : Int) : Nat := (fl.filter fun f => decide (0 < (placesP f t).length)).length
theorem seenN_snoc (fl : List Fl) (f : Fl) (t : Int) : seenN (fl ++ [f]) t = seenN fl t + if 0 < (placesP f t).length then 1 else 0 := by
 unfold seenN
 rw [List.filter_append, List.length_append]
 congr 1
 by_cases h : 0 < (placesP f t).length
 ·simp [h]
 ·simp [h]
theorem take_snocF (l : List Fl) (k : Nat) (h : k < l.length) : l.take (k + 1) = l.take k ++ [l[k]!] := by
 rw [List.take_add_one, List.getElem?_eq_getElem h, getElem!_pos l k h]; rfl
theorem seenN_le (fl : List Fl) (t : Int) : seenN fl t ≤ fl.length := List.length_filter_le _ _
structure AcL (S : Su) (fl : List Fl) (t : Int) (j : Nat) (L : List Ac) : Prop where
 n : L.length = seenN (fl.take j) t
 ok : ∀ a ∈ L, AcOk a
 src : ∀ a ∈ L, ∃ q, q < j ∧ a.n ∈ placesP fl[q]! t
 sep : ∀ i k, i < k → k < L.length → sepN (L[k]!).n (L[i]!).n S.lat S.vert = true
theorem AcL.nil (S : Su) (fl : List Fl) (t : Int) : AcL S fl t 0 [] := ⟨rfl, fun a h => (by cases h), fun a h => (by cases h), fun i k _ hk => (by simp at hk)⟩
theorem AcL.skip {S : Su} {fl : List Fl} {t : Int} {j : Nat} {L : List Ac} (h : AcL S fl t j L) (hj : j < fl.length) (hn : (placesP fl[j]! t).length = 0) : AcL S fl t (j + 1) L :=
 ⟨by rw [take_snocF fl j hj, seenN_snoc, if_neg (by omega)]; exact h.n, h.ok, fun a ha => by obtain ⟨q, h1, h2⟩ := h.src a ha; exact ⟨q, by omega, h2⟩, h.sep⟩
theorem AcL.snoc {S : Su} {c : Ce} {t : Int} {j : Nat} {L : List Ac} (h : AcL S c.fl t j L) (hok : CeOk c) (hp : Pw (fun _ => True) (SafeTwo S) c.fl) (hj : j < c.fl.length) {a : Ac} (ha : AcOk a) (hn : a.n ∈ placesP c.fl[j]! t) : AcL S c.fl t (j + 1) (L ++ [a]) := by
 refine ⟨?_, fun b hb => ?_, fun b hb => ?_, fun i k hik hk => ?_⟩
 ·rw [List.length_append, take_snocF c.fl j hj, seenN_snoc, if_pos (List.length_pos_of_mem hn), h.n]; rfl
 ·rcases List.mem_append.1 hb with hb | hb
  ·exact h.ok b hb
  ·rw [List.mem_singleton.1 hb]; exact ha
 ·rcases List.mem_append.1 hb with hb | hb
  ·obtain ⟨q, h1, h2⟩ := h.src b hb; exact ⟨q, by omega, h2⟩
  ·rw [List.mem_singleton.1 hb]; exact ⟨j, by omega, hn⟩
 ·rw [List.length_append, List.length_singleton] at hk
  have e : ∀ q, q < L.length → (L ++ [a])[q]! = L[q]! := fun q hq => by
   rw [getElem!_pos _ q (by simp; omega), getElem!_pos L q hq, List.getElem_append_left hq]
  rw [e i (by omega)]
  by_cases hk2 : k < L.length
  ·rw [e k hk2]; exact h.sep i k hik hk2
  ·obtain rfl : k = L.length := by omega
   have e2 : (L ++ [a])[L.length]! = a := by
    rw [getElem!_pos _ _ (by simp), List.getElem_append_right (by omega)]; simp
   rw [e2]
   have hm : L[i]! ∈ L := by rw [getElem!_pos L i (by omega)]; exact List.getElem_mem _
   obtain ⟨q, h1, h2⟩ := h.src _ hm
   have hqf : c.fl[q]! ∈ c.fl := by rw [getElem!_pos c.fl q (by omega)]; exact List.getElem_mem _
   have hjf : c.fl[j]! ∈ c.fl := by rw [getElem!_pos c.fl j hj]; exact List.getElem_mem _
   exact hp.t _ hjf _ hqf (fun he => by have := calls_inj hok hj (by omega) he; omega) t _ _ hn h2
theorem mask_low (p : Int) : 0 ≤ bits .and .i64 p 65535 ∧ bits .and .i64 p 65535 ≤ 65535 := by
 have h : (BitVec.ofInt 64 p &&& BitVec.ofInt 64 65535).toNat ≤ 65535 := by
  rw [BitVec.toNat_and]
  exact Nat.and_le_right
 have e : bits .and .i64 p 65535 = IntKind.i64.wrap ((BitVec.ofInt 64 p &&& BitVec.ofInt 64 65535).toNat : Int) := rfl
 rw [e, IntWalk.i64_in _ (by omega)]
 omega
theorem takeAc {A : Option Addr} {c : Nat} (n q : Nat) (hq : q ≤ n) (hn : n ≤ c) (hc : c ≤ maxLen) (hnil : A = none → n = 0 ∧ c = 0) : ∃ A2 c2, (∀ W, (Instr.slice 133 (.slice A n c) none (some (.int .i64 (q : Int))) none).run Tryz.prog W = .ok (.slice A2 q c2) W) ∧ (0 < q → A2 = A) := by
 unfold maxLen at hc
 have h0 : (0 : Int) ≤ (q : Int) := by omega
 have h1 : (q : Int) ≤ (n : Int) := by omega
 have h2 : (n : Int) ≤ (c : Int) := by omega
 have h3 : (q : Int) ≤ (c : Int) := by omega
 have c23 : Tryz.prog.cellsOf 139 = 9 := by kernel_rfl
 cases A with
 | none =>
  obtain ⟨rfl, rfl⟩ := hnil rfl
  obtain rfl : q = 0 := by omega
  refine ⟨none, 0, fun W => ?_, fun h => absurd h (by omega)⟩
  go_simp
 | some a =>
  refine ⟨if c = 0 then some a else some (a.add (0 * 9)), c, fun W => ?_, fun hq0 => ?_⟩
  ·go_simp
  ·rw [if_neg (by omega)]; simp [Addr.add]
theorem AcL.apart {S : Su} {fl : List Fl} {t : Int} {j : Nat} {L : List Ac} (h : AcL S fl t j L) (hS : SuOk S) {i q : Nat} (hq : q < i) (hi : i < L.length) : (decide (sqI (L[i]!).x (L[i]!).y (L[q]!).x (L[q]!).y < S.lat * S.lat) && decide (max ((L[i]!).h - (L[q]!).h) ((L[q]!).h - (L[i]!).h) < S.vert)) = false := by
 have hm : ∀ k, k < L.length → AcOk L[k]! := fun k hk => h.ok _ (by rw [getElem!_pos L k hk]; exact List.getElem_mem _)
 cases h1 : decide (sqI (L[i]!).x (L[i]!).y (L[q]!).x (L[q]!).y < S.lat * S.lat) with
 | false => rfl
 | true =>
  cases h2 : decide (max ((L[i]!).h - (L[q]!).h) ((L[q]!).h - (L[i]!).h) < S.vert) with
  | false => rfl
  | true => exact (ac_apart (hm i hi) (hm q (by omega)) hS.lat.1 (h.sep q i hq hi) (of_decide_eq_true h1) (of_decide_eq_true h2)).elim
theorem Ac_info : (Tryz.prog.info? 139).map (fun i => (i.zero, i.size, i.bytes)) = some (some (.agg #[.int .i64 0, .int .i64 0, .int .i64 0, .int .i64 0, .int .i64 0, .int .i64 0, .int .i64 0, .int .i64 0, .int .i64 0]), 9, 72) := by kernel_rfl
def repV (s n a r : Int) : Array Value := #[.int .i64 s, .int .i64 n, .int .i64 0, .int .i64 0, .int .i64 0, .int .i64 0, .int .i64 a, .int .i64 r]
end Go.Proofs.YtaebebpldkciiaaGreatDoor
