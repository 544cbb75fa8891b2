/- Package snapshot: find, Get, set, Set, Cut. -/
import Derived.Test.YtjmdebeffpdpcaaGreatDoorSA2
import Derived.Test.YtjmdebeffpdpcaaGreatDoorLow
import Derived.Test.YtjmdebeffpdpcaaGreatDoorBsfRw
import Derived.Test.YtjmdebeffpdpcaaGreatDoorInsRw
import Derived.Test.YtjmdebeffpdpcaaGreatDoorDelRw
import Derived.Test.YtjmdebeffpdpcaaGreatDoorCloneRw
import Derived.Test.YtjmdebeffpdpcaaGreatDoorSh
namespace Go.Proofs.YtjmdebeffpdpcaaGreatDoor
open Go.RowKit

theorem compare_lists : ∀ (x y : List UInt8), Lib.compareBytes x y = if x < y then -1 else if x = y then 0 else 1
  | [], [] => by simp [Lib.compareBytes]
  | [], _ :: _ => by simp [Lib.compareBytes]
  | _ :: _, [] => by simp [Lib.compareBytes]
  | a :: xs, b :: ys => by
    have e : (a :: xs < b :: ys) ↔ (a < b ∨ a = b ∧ xs < ys) := List.cons_lt_cons_iff
    unfold Lib.compareBytes
    rw [compare_lists xs ys]
    by_cases h1 : a < b
    · rw [if_pos h1, if_pos (e.2 (.inl h1))]
    · rw [if_neg h1]
      by_cases h2 : b < a
      · have hne : ¬ a = b := fun e => by subst e; exact h1 h2
        rw [if_pos h2, if_neg (fun h => (e.1 h).elim h1 (fun h => hne h.1)), if_neg (by simp [hne])]
      · have he : a = b := UInt8.le_antisymm (UInt8.not_lt.1 h2) (UInt8.not_lt.1 h1)
        subst he
        rw [if_neg h2]
        by_cases h3 : xs < ys
        · rw [if_pos h3, if_pos (e.2 (.inr ⟨rfl, h3⟩))]
        · rw [if_neg h3, if_neg (fun h => (e.1 h).elim h1 (fun h => h3 h.2))]
          by_cases h4 : xs = ys
          · rw [if_pos h4, if_pos (by rw [h4])]
          · rw [if_neg h4, if_neg (by simp [h4])]
theorem compare_cmpS (x y : ByteArray) : Lib.compareBytes x.data.toList y.data.toList = cmpS x y := by
  rw [compare_lists]
  unfold cmpS
  have e1 : (x.data.toList < y.data.toList) ↔ lsS x y = true := by rw [lsS_iff, ByteArray.toList_eq, ByteArray.toList_eq]
  have e2 : (x.data.toList = y.data.toList) ↔ x = y := ⟨fun h => ba_ext (by rw [ByteArray.toList_eq, ByteArray.toList_eq]; exact h), fun h => by rw [h]⟩
  by_cases h1 : lsS x y = true
  · rw [if_pos (e1.2 h1), if_pos h1]
  · rw [if_neg (fun h => h1 (e1.1 h)), if_neg h1]
    by_cases h2 : x = y
    · rw [if_pos (e2.2 h2), if_pos h2]
    · rw [if_neg (fun h => h2 (e2.1 h)), if_neg h2]
theorem Compare_any (x y : ByteArray) (w : World) : Calls Tryz.prog 71 #[.string x, .string y] w fun e w' => e = .returned (.int .i64 (cmpS x y)) ∧ w = w' :=
  (Any.strings_Compare Tryz.lays106 x y w).mono fun _ _ h => ⟨by rw [h.1, compare_cmpS], h.2.symm⟩

set_option maxHeartbeats 400000 in
theorem cmp_one (t : ByteArray) (W : World) (x : Rw) : Calls Tryz.prog 70 #[.agg #[.string x.1, .string x.2], .string t] W fun e w' => e = .returned (.int .i64 (cmpS x.1 t)) ∧ Below W.heap.size W w' := by
  go_enter Tryz.func70, Tryz.ntmps70
  go_wp2_with (go_at_call 71; refine (Compare_any _ _ _).mono ?_; rintro e w' ⟨rfl, rfl⟩)
  go_ret
  exact ⟨rfl, (Below.refl _ W).alloc (Nat.le_refl _) _⟩

abbrev key1 (x : Rw) : ByteArray := x.1
def FindP (l : List Rw) (t : ByteArray) (w : World) (e : Ending) (w' : World) : Prop := e = .returned (.tuple #[.int .i64 (lowK key1 l t : Int), .bool (hasK key1 l t)]) ∧ Below w.heap.size w w'

set_option maxHeartbeats 1000000 in
theorem find_any (A : Option Addr) (n c : Nat) (l : List Rw) (w : World) (hA : Sl w w.heap.size 2 A n (fun i => rwV l[i]!)) (hl : l.length = n) (hn : n ≤ 1000) (hs : SortedK key1 l) (t : ByteArray) :
    Calls Tryz.prog 50 #[.slice A n c, .string t] w (FindP l t w) := by
  subst hl
  obtain ⟨h1, h2⟩ := lowK_sorted t l hs
  have hcon := BsfRw_any A l.length c (lowK key1 l t) (fun i => l[i]!) t (fun x => cmpS x.1 t) w hA (by omega) (lowK_le l t) (fun W x _ => cmp_one t W x)
    (fun i hi => cmpS_lt.2 (h1 i hi)) (fun i h3 h4 => by
      have := h2 i h3 h4
      rcases Int.lt_or_le (cmpS (l[i]!).1 t) 0 with h | h
      · rw [cmpS_lt] at h
        have h' : lsS (key1 l[i]!) t = true := h
        rw [this] at h'; cases h'
      · exact h)
  change Calls Tryz.prog 69 _ _ (FindP l t w) at hcon
  have HC := Lib.hid hcon
  clear hcon hA h1 h2
  go_enter Tryz.func50, Tryz.ntmps50
  go_wp2_with (go_at_call 69; go_loud (refine HC.out.mono ?_; rintro e w' ⟨rfl, hb⟩))
  go_ret2
  exact ⟨rfl, hb⟩

/-- What a valid state is. -/
structure Fine (l : List Rw) : Prop where
  len : l.length ≤ 64
  key : ∀ x ∈ l, keyB x.1 = true ∧ valB x.2 = true
  sorted : SortedK key1 l
theorem fine_of {l : List Rw} (h : checkL l = 0) : Fine l := by
  unfold checkL at h
  by_cases h64 : 64 < l.length
  · rw [if_pos h64] at h; cases h
  rw [if_neg h64] at h
  have hat := ckUp_zero h
  have hkv : ∀ i (hi : i < l.length), keyB (l[i]).1 = true ∧ valB (l[i]).2 = true := fun i hi => by
    have := hat i hi
    unfold ckAt at this
    rw [getElem!_pos l i hi] at this
    cases ha : keyB (l[i]).1 with
    | false => rw [ha] at this; cases this
    | true =>
      cases hb : valB (l[i]).2 with
      | false => rw [ha, hb] at this; cases this
      | true => exact ⟨rfl, rfl⟩
  have hnx : ∀ i (hi : i + 1 < l.length), lsS (l[i]).1 (l[i + 1]).1 = true := fun i hi => by
    have h1 := hat (i + 1) hi
    obtain ⟨a, b⟩ := hkv (i + 1) hi
    unfold ckAt at h1
    rw [getElem!_pos l (i + 1) hi, a, b] at h1
    rw [show i + 1 - 1 = i from rfl, getElem!_pos l i (by omega)] at h1
    by_cases e : lsS (l[i]).1 (l[i + 1]).1 = true
    · exact e
    · simp [e] at h1
  refine ⟨by omega, fun x hx => ?_, ?_⟩
  · obtain ⟨i, hi, rfl⟩ := List.mem_iff_getElem.1 hx
    exact hkv i hi
  · unfold SortedK
    rw [List.pairwise_iff_getElem]
    intro i j hi hj hij
    induction j with
    | zero => omega
    | succ j ih =>
      by_cases e : i = j
      · subst e; exact hnx i hj
      · exact lsS_tr (ih (by omega) (by omega)) (hnx j hj)
theorem fine_check {l : List Rw} (h : Fine l) : checkL l = 0 := by
  unfold checkL
  rw [if_neg (by have := h.len; omega)]
  have : ∀ k, k ≤ l.length → ckUp l k = 0 := by
    intro k
    induction k with
    | zero => intro _; rfl
    | succ k ih =>
      intro hk
      unfold ckUp
      rw [if_pos (ih (by omega))]
      unfold ckAt
      have hkl : k < l.length := by omega
      obtain ⟨a, b⟩ := h.key l[k] (List.getElem_mem hkl)
      rw [getElem!_pos l k hkl, a, b]
      rcases Nat.eq_zero_or_pos k with h0 | h0
      · subst h0; rfl
      · have := List.pairwise_iff_getElem.1 h.sorted (k - 1) k (by omega) hkl (by omega)
        have : lsS (l[k - 1]).1 (l[k]).1 = true := this
        rw [getElem!_pos l (k - 1) (by omega), this]
        simp
  exact this l.length (Nat.le_refl _)

/-- What Get answers. -/
def getL (l : List Rw) (t : ByteArray) : ByteArray × Int := if checkL l ≠ 0 then (ByteArray.empty, checkL l) else match getK key1 l t with | some x => (x.2, 0) | none => (ByteArray.empty, 8)
def GetP (l : List Rw) (t : ByteArray) (w : World) (e : Ending) (w' : World) : Prop := e = .returned (.tuple #[.string (getL l t).1, .int .i64 (getL l t).2]) ∧ Below w.heap.size w w'

theorem ret2_si {s s' : ByteArray} {n n' : Int} (h1 : s = s') (h2 : n = n') : Ending.returned (.tuple #[.string s, .int .i64 n]) = .returned (.tuple #[.string s', .int .i64 n']) := by rw [h1, h2]

set_option maxRecDepth 100000 in
set_option maxHeartbeats 2000000 in
theorem Get_any (A : Option Addr) (n c : Nat) (l : List Rw) (w : World) (hA : Sl w w.heap.size 2 A n (fun i => rwV l[i]!)) (hl : l.length = n) (hz : ∀ x ∈ l, x.1.size ≤ maxLen ∧ x.2.size ≤ maxLen) (hn : n ≤ maxLen) (t : ByteArray) :
    Calls Tryz.prog 49 #[.slice A n c, .string t] w (GetP l t w) := by
  have HCk := Lib.hid (Check_any A n c l w hA hl hz hn)
  have HA := Lib.hid hA
  unfold maxLen at hn
  subst hl
  by_cases hc : checkL l = 0
  · have hf := fine_of hc
    have hlen := hf.len
    have HF : Hid (∀ W, Below w.heap.size w W → Calls Tryz.prog 50 #[.slice A l.length c, .string t] W (FindP l t W)) := Lib.hid fun W hb => find_any A l.length c l W ((HA.out.below hb).more hb.size) rfl (by omega) hf.sorted t
    have HG : Hid (getL l t = match getK key1 l t with | some x => (x.2, 0) | none => (ByteArray.empty, 8)) := Lib.hid (by unfold getL; rw [if_neg (by simpa using hc)])
    have HE := Lib.hid (getK_eq hf.sorted t)
    have HC := Lib.hid hc
    clear hc hA hf hz
    cases hh : hasK key1 l t with
    | true =>
      have hat := hasK_at hh
      obtain ⟨h1, h2⟩ := hat
      have HR : Hid (getL l t = ((l[lowK key1 l t]!).2, 0)) := Lib.hid (by rw [HG.out, HE.out, hh]; rfl)
      have HH := Lib.hid hh
      have H2 := Lib.hid h2
      clear hh h2 HG HE
      generalize hp : lowK key1 l t = p at *
      have HP := Lib.hid hp
      clear hp
      obtain ⟨b, off, rfl, hb, hr⟩ := HA.out (by omega)
      have o1 := hr p h1 1 _ rfl
      have hp0 : (0 : Int) ≤ (p : Int) := by omega
      have hpl : (p : Int) < (l.length : Int) := by omega
      clear hr
      generalize (l[p]!).2 = v at *
      go_enter Tryz.func49, Tryz.ntmps49
      go_wp2_with (first
        | (go_at_call 28; go_loud (refine HCk.out.mono ?_; rintro e w1 ⟨he1, hb1⟩; rw [HC.out] at he1; subst he1; obtain ⟨hc1, hf1⟩ := bcell hb1))
        | (go_at_call 50; go_loud (refine (HF.out _ hb1).mono ?_; rintro e w2 ⟨he2, hb2⟩; rw [HH.out, HP.out] at he2; subst he2; have HB2 := Lib.hid (bstep hb1 hb2); clear hb2; obtain ⟨hc2, hf2⟩ := bcell HB2.out)))
      go_ret2
      exact ⟨ret2_si (by rw [HR.out]) (by rw [HR.out]), HB2.out⟩
    | false =>
      have HR : Hid (getL l t = (ByteArray.empty, 8)) := Lib.hid (by rw [HG.out, HE.out, hh]; rfl)
      have HH := Lib.hid hh
      clear hh HG HE
      go_enter Tryz.func49, Tryz.ntmps49
      go_wp2_with (first
        | (go_at_call 28; go_loud (refine HCk.out.mono ?_; rintro e w1 ⟨he1, hb1⟩; rw [HC.out] at he1; subst he1))
        | (go_at_call 50; go_loud (refine (HF.out _ hb1).mono ?_; rintro e w2 ⟨he2, hb2⟩; rw [HH.out] at he2; subst he2)))
      go_ret2
      exact ⟨ret2_si (by rw [HR.out]; rfl) (by rw [HR.out]), bstep hb1 hb2⟩
  · have hcb : (checkL l != 0) = true := by simpa using hc
    have HR := Lib.hid (show getL l t = (ByteArray.empty, checkL l) by unfold getL; rw [if_pos hc])
    clear hc hA hz
    generalize hce : checkL l = ce at *
    have HCE := Lib.hid hce
    clear hce
    go_enter Tryz.func49, Tryz.ntmps49
    go_wp2_with (go_at_call 28; go_loud (refine HCk.out.mono ?_; rintro e w1 ⟨he1, hb1⟩; rw [HCE.out] at he1; subst he1))
    go_ret2
    exact ⟨ret2_si (by rw [HR.out]; rfl) (by rw [HR.out]), hb1⟩
end Go.Proofs.YtjmdebeffpdpcaaGreatDoor
