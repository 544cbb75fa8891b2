/- Contracts and plain words, part 8: texts RA, RL1, V1, V2. -/
import Derived.Test.YtaebebpldkciiaaGreatDoorQG07
import Derived.Test.YtaebebpldkciiaaGreatDoorQG01
import Derived.Lib.SmallJoins
import Derived.Handy
import Derived.Test.YtaebebpldkciiaaGreatDoorQG04
import Derived.Deep.RegionLaw
import Derived.Deep.QuietTactic
import Derived.Test.YtaebebpldkciiaaGreatDoorQG05
namespace Go.Proofs.YtaebebpldkciiaaGreatDoor
section
open Go.RowKit
open Go.Lib hiding intOf
abbrev L8 := List UInt8
abbrev bl (s : ByteArray) : L8 := s.data.toList
structure Ent where
 num : Int
 time : Int
 kind : ByteArray
 text : ByteArray
def lower (b : UInt8) : Bool := 97 ≤ b.toNat && b.toNat ≤ 122
structure Ok (e : Ent) : Prop where
 n1 : 1 ≤ e.num
 n2 : e.num ≤ 500
 t1 : 0 ≤ e.time
 t2 : e.time ≤ 200000
 x : (bl e.text).length ≤ 120
 k : (bl e.kind).length ≤ 8
 k0 : bl e.kind ≠ []
 kl : ∀ b ∈ bl e.kind, lower b = true
theorem bl_inj {a b : ByteArray} (h : bl a = bl b) : a = b := by
 cases a; cases b
 exact congrArg ByteArray.mk (Array.toList_inj.1 h)
def mk (l : L8) : ByteArray := ⟨l.toArray⟩
theorem bl_mk (l : L8) : bl (mk l) = l := by simp [bl, mk]
theorem mk_bl (s : ByteArray) : mk (bl s) = s := bl_inj (bl_mk _)
theorem size_bl (s : ByteArray) : (bl s).length = s.size := by simp [bl]
theorem size_mk (l : L8) : (mk l).size = l.length := by rw [← size_bl, bl_mk]
theorem toList_mk (l : L8) : (mk l).toList = l := by rw [ByteArray.toList_eq]; exact bl_mk l
theorem bl_append (x y : ByteArray) : bl (x ++ y) = bl x ++ bl y := by simp [bl]
def lowS (s : ByteArray) : Bool := (bl s).all lower
theorem take_snoc (s : ByteArray) (k : Nat) (h : k < s.size) : (bl s).take (k + 1) = (bl s).take k ++ [s[k]] := by
 rw [List.take_succ_eq_append_getElem (by simpa using h)]; rfl
set_option maxRecDepth 100000 in
set_option maxHeartbeats 1000000 in
theorem small_any (s : ByteArray) (w : World) (hs : s.size ≤ maxLen) :
  Calls Tryz.prog 99 #[.string s] w fun e w' => e = .returned (.bool (lowS s)) ∧ w = w' := by
 unfold maxLen at hs
 go_enter Tryz.func99, Tryz.ntmps99
 go_wp2
 go_loop [3, 6] (fun _ i => ∃ k : Nat, k ≤ s.size ∧ i = .int .i64 (k : Int) ∧ Hid (((bl s).take k).all lower = true)) (fun _ i => s.size - (intOf i).toNat)
 case atStart => exact ⟨0, by omega, rfl, Lib.hid (by simp)⟩
 case round =>
  obtain ⟨k, hk, rfl, HA⟩ := hrel
  by_cases hlt : k < s.size
  ·have hts := take_snoc s k hlt
   have hmem : s[k] ∈ bl s := by
    have : (bl s)[k]'(by rw [size_bl]; exact hlt) = s[k] := rfl
    rw [← this]; exact List.getElem_mem _
   have hcb := UInt8.toNat_lt s[k]
   by_cases hl : lower s[k] = true
   ·have hn : ((bl s).take (k + 1)).all lower = true := by rw [hts, List.all_append, HA.out]; simp [hl]
    have HN := Lib.hid hn
    unfold lower at hl
    simp only [Bool.and_eq_true, decide_eq_true_eq] at hl
    obtain ⟨a1, a2⟩ := hl
    clear hts hn hmem
    go_wp2
    go_round
    case rel => exact ⟨k + 1, by omega, by go_num, HN⟩
    case measure => simp [intOf]; omega
   ·have hf : lowS s = false := by
     rw [Bool.eq_false_iff]; intro h
     exact hl (List.all_eq_true.1 h _ hmem)
    have HF := Lib.hid hf
    unfold lower at hl
    simp only [Bool.and_eq_true, decide_eq_true_eq, not_and] at hl
    by_cases h1 : 97 ≤ s[k].toNat
    ·have h2 : ¬ s[k].toNat ≤ 122 := hl h1
     clear hts hf hmem hl
     go_wp2
     go_ret
     exact ⟨by rw [HF.out]; rfl, rfl⟩
    ·clear hts hf hmem hl
     go_wp2
     go_ret
     exact ⟨by rw [HF.out]; rfl, rfl⟩
  ·obtain rfl : s.size = k := by omega
   have hf : lowS s = true := by
    have := HA.out
    rw [List.take_of_length_le (by rw [size_bl]; omega)] at this
    exact this
   have HF := Lib.hid hf
   clear hf
   go_wp2
   go_ret
   exact ⟨by rw [HF.out]; rfl, rfl⟩
def chk (e : Ent) : Int :=
 if e.num < 1 ∨ 500 < e.num ∨ e.time < 0 ∨ 200000 < e.time then 4
 else if 120 < e.text.size ∨ 8 < e.kind.size then 2
 else if e.kind.size = 0 ∨ lowS e.kind = false then 6 else 0
theorem chk_ok {e : Ent} : chk e = 0 ↔ Ok e := by
 unfold chk
 constructor
 ·intro h
  split at h
  ·omega
  ·split at h
   ·omega
   ·split at h
    ·omega
    ·rename_i h1 h2 h3
     refine ⟨by omega, by omega, by omega, by omega, by rw [size_bl]; omega, by rw [size_bl]; omega, ?_, ?_⟩
     ·intro h0
      have := size_bl e.kind
      rw [h0] at this
      simp at this; omega
     ·have : lowS e.kind = true := by
       rcases Bool.eq_false_or_eq_true (lowS e.kind) with h' | h'
       ·exact h'
       ·exact absurd (.inr h') h3
      exact List.all_eq_true.1 this
 ·intro h
  have h1 := h.n1; have h2 := h.n2; have h3 := h.t1; have h4 := h.t2; have h5 := h.x; have h6 := h.k
  rw [size_bl] at h5 h6
  have h7 : lowS e.kind = true := List.all_eq_true.2 h.kl
  have h8 : e.kind.size ≠ 0 := by
   intro h0
   rw [← size_bl] at h0
   exact h.k0 (List.length_eq_zero_iff.1 h0)
  rw [if_neg (by omega), if_neg (by omega), if_neg (by rw [h7]; simp [h8])]
def valE (e : Ent) : Value := .agg #[.int .i64 e.num, .int .i64 e.time, .string e.kind, .string e.text]
def Wf (e : Ent) : Prop := (-9223372036854775808 ≤ e.num ∧ e.num ≤ 9223372036854775807) ∧ (-9223372036854775808 ≤ e.time ∧ e.time ≤ 9223372036854775807) ∧ e.kind.size ≤ maxLen ∧ e.text.size ≤ maxLen
def alpha : ByteArray := ⟨#[97, 98, 99, 100, 101, 102, 103, 104, 105, 106, 107, 108, 109, 110, 111, 112, 113, 114, 115, 116, 117, 118, 119, 120, 121, 122]⟩
theorem alpha_has {b : UInt8} (h : lower b = true) : (bl alpha).contains b = true := by
 unfold lower at h
 simp only [Bool.and_eq_true, decide_eq_true_eq] at h
 have hb : b = UInt8.ofNat (97 + (b.toNat - 97)) := by
  apply UInt8.toNat_inj.1
  rw [UInt8.toNat_ofNat']
  have := UInt8.toNat_lt b
  omega
 have hall : ∀ n : Fin 26, (bl alpha).contains (UInt8.ofNat (97 + n.val)) = true := by decide
 rw [hb]
 exact hall ⟨b.toNat - 97, by omega⟩
theorem dropWhile_all {α : Type} {p : α → Bool} : ∀ {l : List α}, (∀ b ∈ l, p b = true) → l.dropWhile p = []
 | [], _ => rfl
 | b :: l, h => by rw [List.dropWhile_cons_of_pos (h b (by simp))]; exact dropWhile_all (fun x hx => h x (by simp [hx]))
theorem trim_lower {s : ByteArray} (h : lowS s = true) : trimS (bl s) (bl alpha) = [] := by
 have h' : ∀ b ∈ bl s, (bl alpha).contains b = true := fun b hb => alpha_has (List.all_eq_true.1 h b hb)
 unfold trimS trimRightS trimLeftS
 rw [dropWhile_all (l := (bl s).reverse) (fun b hb => h' b (List.mem_reverse.1 hb))]
 rfl
theorem Trim_any (s : ByteArray) (w : World) (hs : s.size ≤ maxLen) :
  Calls Tryz.prog 98 #[.string s, .string alpha] w fun e w' => e = .returned (.string (mk (trimS (bl s) (bl alpha)))) ∧ Below w.heap.size w w' := by
 unfold maxLen at hs
 exact Any.strings_Trim_laid Tryz.lays160 (by kernel_rfl) s alpha w (by omega) (by decide) (ascii_of_all (by decide))
set_option maxRecDepth 100000 in
set_option maxHeartbeats 2000000 in
theorem CheckE_any (e : Ent) (w : World) (hw : Wf e) :
  Calls Tryz.prog 58 #[valE e] w fun x w' => x = .returned (.int .i64 (chk e)) ∧ Below w.heap.size w w' := by
 obtain ⟨n, t, k, x⟩ := e
 obtain ⟨⟨a1, a2⟩, ⟨b1, b2⟩, hk, hx⟩ := hw
 simp only at a1 a2 b1 b2 hk hx
 have HT := Lib.hid (fun W => Trim_any k W hk)
 have HS := Lib.hid (fun W => small_any k W hk)
 unfold maxLen at hk hx
 have fin : ∀ W : World, Below w.heap.size (w.alloc (.cells #[.int .i64 n, .int .i64 t, .string k, .string x] 78)) W → Below w.heap.size w W := fun _ h => ((Below.refl _ w).alloc (Nat.le_refl _) _).trans h
 have HF := Lib.hid fin
 clear fin
 unfold valE
 by_cases h1 : n < 1 ∨ 500 < n ∨ t < 0 ∨ 200000 < t
 ·have hc : chk ⟨n, t, k, x⟩ = 4 := by unfold chk; rw [if_pos h1]
  have HC := Lib.hid hc
  have hb : (decide (n < 1) || decide (500 < n) || decide (t < 0) || decide (200000 < t)) = true := by simp; omega
  clear hc
  have ht : (n < 1) ∨ (¬ n < 1 ∧ 500 < n) ∨ (¬ n < 1 ∧ ¬ 500 < n ∧ t < 0) ∨ (¬ n < 1 ∧ ¬ 500 < n ∧ ¬ t < 0 ∧ 200000 < t) := by omega
  clear h1 hb
  rcases ht with h | ⟨g1, h⟩ | ⟨g1, g2, h⟩ | ⟨g1, g2, g3, h⟩
  all_goals
   go_enter Tryz.func58, Tryz.ntmps58
   go_wp2
   go_ret
   exact ⟨by rw [HC.out]; rfl, HF.out _ (Below.refl _ _)⟩
 ·have g1 : ¬ n < 1 := by omega
  have g2 : ¬ 500 < n := by omega
  have g3 : ¬ t < 0 := by omega
  have g4 : ¬ 200000 < t := by omega
  by_cases h2 : 120 < x.size ∨ 8 < k.size
  ·have hc : chk ⟨n, t, k, x⟩ = 2 := by unfold chk; rw [if_neg h1, if_pos h2]
   have HC := Lib.hid hc
   have ht : (120 < x.size) ∨ (¬ 120 < x.size ∧ 8 < k.size) := by omega
   clear h1 h2 hc
   rcases ht with h | ⟨g, h⟩
   all_goals
    go_enter Tryz.func58, Tryz.ntmps58
    go_wp2
    go_ret
    exact ⟨by rw [HC.out]; rfl, HF.out _ (Below.refl _ _)⟩
  ·have g5 : ¬ 120 < x.size := by omega
   have g6 : ¬ 8 < k.size := by omega
   by_cases h3 : k.size = 0
   ·have hc : chk ⟨n, t, k, x⟩ = 6 := by unfold chk; rw [if_neg h1, if_neg h2, if_pos (.inl h3)]
    have HC := Lib.hid hc
    have hkl : k.toList = [] := by
     rw [ByteArray.toList_eq]
     have := size_bl k
     exact List.length_eq_zero_iff.1 (this.trans h3)
    clear h1 h2 hc h3
    go_enter Tryz.func58, Tryz.ntmps58
    go_wp2
    go_ret
    exact ⟨by rw [HC.out]; rfl, HF.out _ (Below.refl _ _)⟩
   ·have hkl : k.toList.isEmpty = false := by
     rw [ByteArray.toList_eq]
     cases hh : k.data.toList with
     | nil => exact absurd ((size_bl k).symm.trans (by rw [show bl k = k.data.toList from rfl, hh]; rfl)) h3
     | cons => rfl
    have hkl2 : ¬ k.toList = [] := by intro e; rw [e] at hkl; cases hkl
    obtain ⟨T, hT⟩ : ∃ T, mk (trimS (bl k) (bl alpha)) = T := ⟨_, rfl⟩
    obtain ⟨lw, hlw⟩ : ∃ lw, lowS k = lw := ⟨_, rfl⟩
    have hT2 : lw = true → T.toList = [] := fun h => by rw [← hT, trim_lower (hlw.trans h), toList_mk]
    rw [hT] at HT
    rw [hlw] at HS
    cases lw with
    | true =>
     have hTe := hT2 rfl
     have hc : chk ⟨n, t, k, x⟩ = 0 := by unfold chk; rw [if_neg h1, if_neg h2, if_neg (by rw [hlw]; simp [h3])]
     have HC := Lib.hid hc
     clear h1 h2 hc h3 hT hlw hT2
     unfold alpha at HT
     go_enter Tryz.func58, Tryz.ntmps58
     go_wp2_with (first
      | (go_at_call 98; refine (HT.out _).mono ?_; rintro e w1 ⟨rfl, hb1⟩; obtain ⟨hc1, hf1⟩ := bcell hb1)
      | (go_at_call 99; refine (HS.out _).mono ?_; rintro e w2 ⟨rfl, rfl⟩))
     go_ret
     exact ⟨by rw [HC.out]; rfl, HF.out _ (hb1.mono (by simp))⟩
    | false =>
     have hc : chk ⟨n, t, k, x⟩ = 6 := by unfold chk; rw [if_neg h1, if_neg h2, if_pos (.inr hlw)]
     have HC := Lib.hid hc
     clear h1 h2 hc h3 hT hlw hT2
     unfold alpha at HT
     by_cases hTe : T.toList = []
     ·go_enter Tryz.func58, Tryz.ntmps58
      go_wp2_with (first
       | (go_at_call 98; refine (HT.out _).mono ?_; rintro e w1 ⟨rfl, hb1⟩; obtain ⟨hc1, hf1⟩ := bcell hb1)
       | (go_at_call 99; refine (HS.out _).mono ?_; rintro e w2 ⟨rfl, rfl⟩))
      go_ret
      exact ⟨by rw [HC.out]; rfl, HF.out _ (hb1.mono (by simp))⟩
     ·have hTb : T.toList.isEmpty = false := by
       cases hh : T.toList with
       | nil => exact absurd hh hTe
       | cons => rfl
      go_enter Tryz.func58, Tryz.ntmps58
      go_wp2_with (first
       | (go_at_call 98; refine (HT.out _).mono ?_; rintro e w1 ⟨rfl, hb1⟩; obtain ⟨hc1, hf1⟩ := bcell hb1)
       | (go_at_call 99; refine (HS.out _).mono ?_; rintro e w2 ⟨rfl, rfl⟩))
      go_ret
      exact ⟨by rw [HC.out]; rfl, HF.out _ (hb1.mono (by simp))⟩
end
section
open Go.RowKit
open Go.Lib hiding intOf
def rowE (e : Ent) : List Value := [.int .i64 e.num, .int .i64 e.time, .string e.kind, .string e.text]
theorem rowE_at : ∀ (l : List Ent) (i : Nat) (e : Ent), l[i]? = some e → ∀ j v, (rowE e)[j]? = some v → (l.flatMap rowE)[i * 4 + j]? = some v
 | [], i, e, h, _, _, _ => by simp at h
 | y :: l, 0, e, h, j, v, hj => by
  simp at h
  subst h
  have hjl : j < (rowE y).length := (List.getElem?_eq_some_iff.1 hj).1
  rw [List.flatMap_cons, Nat.zero_mul, Nat.zero_add, List.getElem?_append_left hjl]; exact hj
 | y :: l, i + 1, e, h, j, v, hj => by
  have ih := rowE_at l i e (by simpa using h) j v hj
  rw [List.flatMap_cons, List.getElem?_append_right (by simp [rowE]; omega), show (i + 1) * 4 + j - (rowE y).length = i * 4 + j by simp [rowE]; omega]
  exact ih
def LogA (g : Nat) (A : Option Addr) (c : Nat) (l : List Ent) (W : World) : Prop :=
 W.heap[g]? = some (.cells #[.slice A l.length c] 123 (0, 0)) ∧ W.ownsRow (g + 1) 78 4 (.slice A l.length c) l.length (l.flatMap rowE)
def LogAt (g : Nat) (l : List Ent) (W : World) : Prop := ∃ A c, LogA g A c l W
theorem LogA.lt {g c : Nat} {A : Option Addr} {l : List Ent} {W : World} (h : LogA g A c l W) : g < W.heap.size := (Array.getElem?_eq_some_iff.1 h.1).1
theorem LogA.cell {g c : Nat} {A : Option Addr} {l : List Ent} {W : World} (h : LogA g A c l W) : W.cell? ⟨g, 0, none⟩ = some (.slice A l.length c) := cell_of_row _ _ _ _ _ _ h.1
theorem LogA.frozen {g c : Nat} {A : Option Addr} {l : List Ent} {W : World} (h : LogA g A c l W) : W.frozen? ⟨g, 0, none⟩ = false := frozen_of_row _ _ _ _ _ h.1
theorem LogA.below {g c : Nat} {A : Option Addr} {l : List Ent} {W W' : World} (h : LogA g A c l W) (hb : Below W.heap.size W W') : LogA g A c l W' :=
 ⟨(hb.block _ h.lt).trans h.1, own_below h.2 hb (Nat.le_refl _)⟩
theorem LogA.drewN {g c : Nat} {A : Option Addr} {l : List Ent} {W : World} (h : LogA g A c l W) (q : Nat) : LogA g A c l (W.drewN q) := h
theorem LogAt.below {g : Nat} {l : List Ent} {W W' : World} (h : LogAt g l W) (hb : Below W.heap.size W W') : LogAt g l W' := by
 obtain ⟨A, c, h⟩ := h
 exact ⟨A, c, h.below hb⟩
theorem LogA.ent {g c : Nat} {A : Option Addr} {l : List Ent} {W : World} (h : LogA g A c l W) {i : Nat} {e : Ent} (hi : l[i]? = some e) :
  ∃ b, A = some ⟨b, 0, none⟩ ∧ g < b ∧ b < W.heap.size ∧ W.cell? ⟨b, i * 4, none⟩ = some (.int .i64 e.num) ∧ W.cell? ⟨b, i * 4 + 1, none⟩ = some (.int .i64 e.time) ∧ W.cell? ⟨b, i * 4 + 2, none⟩ = some (.string e.kind) ∧ W.cell? ⟨b, i * 4 + 3, none⟩ = some (.string e.text) := by
 have hlt : i < l.length := (List.getElem?_eq_some_iff.1 hi).1
 obtain ⟨b, cap, hv, hb, hbl⟩ := h.2.form (by omega)
 have hA : A = some ⟨b, 0, none⟩ := by injection hv
 subst hA
 have key : ∀ j v, (rowE e)[j]? = some v → W.cell? ⟨b, i * 4 + j, none⟩ = some v := fun j v hj => by
  have := h.2.cells (g := b) rfl (i * 4 + j) v (rowE_at l i e hi j v hj)
  rwa [Addr.add_mid, Nat.zero_add] at this
 exact ⟨b, rfl, by omega, hbl, key 0 _ rfl, key 1 _ rfl, key 2 _ rfl, key 3 _ rfl⟩
theorem New_any (w : World) : Calls Tryz.prog 28 #[] w fun x w' => x = .returned (.pointer (some ⟨w.heap.size, 0, none⟩)) ∧ LogAt w.heap.size [] w' ∧ Below w.heap.size w w' := by
 go_enter Tryz.func28, Tryz.ntmps28
 go_wp2
 go_ret
 exact ⟨rfl, ⟨_, _, heap_alloc_new w _, World.ownsRow_nil _ _ _ _⟩, (Below.refl _ _).alloc (Nat.le_refl _) _⟩
def OffLog (g : Nat) (A : Option Addr) (w w' : World) : Prop := ∀ k, k < w.heap.size → k ≠ g → (∀ a, A = some a → a.block ≠ k) → w'.heap[k]? = w.heap[k]?
def lastT (l : List Ent) : Int := (l[l.length - 1]?.map (·.time)).getD 0
def newE (l : List Ent) (t : Int) (k x : ByteArray) : Ent := ⟨(l.length : Int) + 1, t, k, x⟩
def addC (l : List Ent) (t : Int) (k x : ByteArray) : Int := if chk (newE l t k x) ≠ 0 then chk (newE l t k x) else if 0 < l.length ∧ t < lastT l then 12 else 0
theorem ent_info : (Tryz.prog.info? 78).map (fun i => (i.zero, i.size, i.bytes)) = some (some (.agg #[.int .i64 0, .int .i64 0, .string ByteArray.empty, .string ByteArray.empty]), 4, 48) := by kernel_rfl
end
section
open Go.RowKit
structure Su where
 lat : Int
 vert : Int
 g : Nat → Int
structure SuOk (S : Su) : Prop where
 lat : 0 ≤ S.lat ∧ S.lat ≤ 1000000
 vert : 0 ≤ S.vert ∧ S.vert ≤ 60000
 g : ∀ i, i < 16 → 0 ≤ S.g i ∧ S.g i ≤ 1000
structure Inp where
 kind : Int
 time : Int
 call : ByteArray
 by_ : ByteArray
 to_ : ByteArray
 tube : Tu
 wake : Int
 slot : Int
 lands : Bool
instance : Inhabited Inp := ⟨⟨0, 0, .empty, .empty, .empty, [], 0, 0, false⟩⟩
structure Ce where
 time : Int
 fl : List Fl
 ow : List Ow
 log : List Ent
 acc : Nat
def secs (l : Tu) : List Nd := (List.range (lstT l + 1 - fstT l).toNat).map fun k : Nat => atN l (fstT l + (k : Int))
def hitsF (S : Su) (call : ByteArray) (n : Nd) (f : Fl) : Bool := !decide (f.call = call) && (placesP f n.t).any fun p => !sepN n p S.lat S.vert
def clashP (S : Su) (fl : List Fl) (call : ByteArray) (l : Tu) : Bool := (secs l).any fun n => fl.any fun f => hitsF S call n f
def nearU (S : Su) (wk class_ : Nat) (t u : Int) : Bool := decide (t - u < S.g (4 * wk + class_)) && decide (u - t < S.g (4 * class_ + wk))
def nearF (S : Su) (call : ByteArray) (class_ : Nat) (t : Int) (f : Fl) : Bool :=
 !decide (f.call = call) && f.lands && (nearU S f.wake.toNat class_ t f.land || (decide (0 < f.next.length) && nearU S f.wake.toNat class_ t f.nland))
def freeP (S : Su) (fl : List Fl) (call : ByteArray) (class_ : Nat) (t : Int) : Bool := !(fl.any fun f => nearF S call class_ t f)
def upTo (p : Int → Bool) : Nat → Int → Int
 | 0, t => t
 | k + 1, t => if p t = true then t else upTo p k (t + 1)
def farN : Nat := 300000
def landP (S : Su) (fl : List Fl) (call : ByteArray) (class_ : Int) (l : Tu) : Int := upTo (freeP S fl call class_.toNat) farN (lstT l)
def offP (l : List Ow) (s b t : ByteArray) : List Ow × Int :=
 if isO l s = true then if (chOff b t l[lowO l s]!).2 = 0 then (l.set (lowO l s) (chOff b t l[lowO l s]!).1, 0) else (l, (chOff b t l[lowO l s]!).2) else (l, 8)
def accP (l : List Ow) (s b : ByteArray) : List Ow × Int :=
 if isO l s = true then if (chAcc b l[lowO l s]!).2 = 0 then (l.set (lowO l s) (chAcc b l[lowO l s]!).1, 0) else (l, (chAcc b l[lowO l s]!).2) else (l, 8)
def insF (l : List Fl) (p : Nat) (f : Fl) : List Fl := l.take p ++ f :: l.drop p
def newF (S : Su) (c : Ce) (x : Inp) : Fl := ⟨x.call, x.wake, x.slot, x.lands, [x.tube], [], if x.lands = true then landP S c.fl x.call x.wake x.tube else 0, 0⟩
def fileE (S : Su) (c : Ce) (x : Inp) : Int :=
 if beE c.ow x.call x.by_ ≠ 0 then beE c.ow x.call x.by_
 else if tuE x.tube ≠ 0 then tuE x.tube
 else if x.wake < 0 ∨ 3 < x.wake ∨ x.slot < 0 ∨ 200000 < x.slot then 4
 else if fstT x.tube < x.time then 12
 else if 3600 < lstT x.tube - fstT x.tube then 2
 else if clashP S c.fl x.call x.tube = true then 15
 else if x.lands = true ∧ x.slot < landP S c.fl x.call x.wake x.tube then 18 else 0
def fileC (S : Su) (c : Ce) (x : Inp) : Ce := { c with fl := insF c.fl (lowO c.ow x.call) (newF S c x), ow := insO c.ow ⟨x.call, x.by_, .empty⟩ }
def flOf (c : Ce) (x : Inp) : Fl := c.fl[lowO c.ow x.call]!
def clearE (S : Su) (c : Ce) (x : Inp) : Int :=
 if isO c.ow x.call = false then 8
 else if (c.ow[lowO c.ow x.call]!).owner ≠ x.by_ then 16
 else if 0 < (flOf c x).next.length then 11
 else if (flOf c x).legs.length = 6 then 9
 else if tuE x.tube ≠ 0 then tuE x.tube
 else if fstT x.tube ≤ x.time ∨ fstT x.tube ≤ fstT (flOf c x).legs[(flOf c x).legs.length - 1]! ∨ lstT (flOf c x).legs[(flOf c x).legs.length - 1]! < fstT x.tube then 12
 else if 3600 < lstT x.tube - fstT x.tube then 2
 else if insN (atN (flOf c x).legs[(flOf c x).legs.length - 1]! (fstT x.tube)) x.tube = false then 19
 else if clashP S c.fl x.call x.tube = true then 15
 else if (flOf c x).lands = true ∧ (flOf c x).slot < landP S c.fl x.call (flOf c x).wake x.tube then 18 else 0
def setF (c : Ce) (x : Inp) (f : Fl) : Ce := { c with fl := c.fl.set (lowO c.ow x.call) f }
def clearF (S : Su) (c : Ce) (x : Inp) : Fl := { flOf c x with next := x.tube, nland := if (flOf c x).lands = true then landP S c.fl x.call (flOf c x).wake x.tube else 0 }
def hearE (c : Ce) (x : Inp) : Int :=
 if isO c.ow x.call = false then 8 else if (flOf c x).next.length = 0 then 11 else if fstT (flOf c x).next ≤ x.time then 12 else 0
def hearF (c : Ce) (x : Inp) : Fl := { flOf c x with legs := (flOf c x).legs ++ [(flOf c x).next], land := (flOf c x).nland, next := [], nland := 0 }
def refuseE (c : Ce) (x : Inp) : Int :=
 if isO c.ow x.call = false then 8 else if (flOf c x).next.length = 0 then 11 else 0
def refuseF (c : Ce) (x : Inp) : Fl := { flOf c x with next := [], nland := 0 }
def endE (c : Ce) (x : Inp) : Int :=
 if isO c.ow x.call = false then 8
 else if (c.ow[lowO c.ow x.call]!).owner ≠ x.by_ then 16
 else if 0 < (flOf c x).next.length ∨ x.time ≤ lstT (flOf c x).legs[(flOf c x).legs.length - 1]! then 11 else 0
def delL {α : Type} (l : List α) (p : Nat) : List α := l.take p ++ l.drop (p + 1)
def endC (c : Ce) (x : Inp) : Ce := { c with fl := delL c.fl (lowO c.ow x.call), ow := delL c.ow (lowO c.ow x.call) }
def methP (S : Su) (c : Ce) (x : Inp) : Ce × Int :=
 if x.kind = 0 then if fileE S c x = 0 then (fileC S c x, 0) else (c, fileE S c x)
 else if x.kind = 1 then ({ c with ow := (offP c.ow x.call x.by_ x.to_).1 }, (offP c.ow x.call x.by_ x.to_).2)
 else if x.kind = 2 then ({ c with ow := (accP c.ow x.call x.by_).1 }, (accP c.ow x.call x.by_).2)
 else if x.kind = 3 then if clearE S c x = 0 then (setF c x (clearF S c x), 0) else (c, clearE S c x)
 else if x.kind = 4 then if hearE c x = 0 then (setF c x (hearF c x), 0) else (c, hearE c x)
 else if x.kind = 5 then if refuseE c x = 0 then (setF c x (refuseF c x), 0) else (c, refuseE c x)
 else if endE c x = 0 then (endC c x, 0) else (c, endE c x)
def bookC (ks : Nat → ByteArray) (c : Ce) (x : Inp) : Ce :=
 { c with time := x.time, acc := c.acc + 1, log := c.log ++ [⟨(c.log.length : Int) + 1, x.time, ks x.kind.toNat, x.call⟩] }
def stepP (ks : Nat → ByteArray) (S : Su) (c : Ce) (x : Inp) : Ce × Int :=
 if x.kind < 0 ∨ 7 ≤ x.kind then (c, 1)
 else if x.time < c.time ∨ 200000 < x.time then (c, 12)
 else if (methP S c x).2 = 0 then (bookC ks (methP S c x).1 x, 0) else (c, (methP S c x).2)
def newC : Ce := ⟨0, [], [], [], 0⟩
structure FlOk (f : Fl) : Prop where
 wk : 0 ≤ f.wake ∧ f.wake ≤ 3
 sl : 0 ≤ f.slot ∧ f.slot ≤ 200000
 n0 : 0 < f.legs.length
 n1 : f.legs.length ≤ 6
 legs : ∀ i, i < f.legs.length → TuOk f.legs[i]!
 up : ∀ i, 0 < i → i < f.legs.length → fstT f.legs[i - 1]! < fstT f.legs[i]!
 next : f.next = [] ∨ TuOk f.next
 nx : 0 < f.next.length → f.legs.length < 6 ∧ fstT f.legs[f.legs.length - 1]! < fstT f.next
 land : 0 ≤ f.land ∧ f.land ≤ 200000
 nland : 0 ≤ f.nland ∧ f.nland ≤ 200000
structure CeOk (c : Ce) : Prop where
 t : 0 ≤ c.time ∧ c.time ≤ 200000
 ow : OwOk c.ow
 calls : c.fl.map (·.call) = c.ow.map (·.call)
 fl : ∀ f ∈ c.fl, FlOk f
 cnt : c.ow.length ≤ c.acc
 log : c.log.length = c.acc
 logt : ∀ e ∈ c.log, 0 ≤ e.time ∧ e.time ≤ c.time
theorem CeOk.len {c : Ce} (h : CeOk c) : c.fl.length = c.ow.length := by have := congrArg List.length h.calls; simpa using this
end
section
open Go.RowKit
theorem upTo_spec (p : Int → Bool) : ∀ (k : Nat) (t : Int), (∃ j : Nat, j < k ∧ p (t + j) = true) → ∃ j : Nat, j < k ∧ upTo p k t = t + j ∧ p (t + j) = true ∧ ∀ i : Nat, i < j → p (t + i) = false
 | 0, t, ⟨j, h, _⟩ => absurd h (by omega)
 | k + 1, t, ⟨j, h, hp⟩ => by
  unfold upTo
  by_cases h0 : p t = true
  ·rw [if_pos h0]
   exact ⟨0, by omega, by simp, by simpa using h0, fun i hi => absurd hi (by omega)⟩
  ·rw [if_neg h0]
   have hj : j ≠ 0 := by rintro rfl; exact h0 (by simpa using hp)
   obtain ⟨j2, h1, h2, h3, h4⟩ := upTo_spec p k (t + 1) ⟨j - 1, by omega, by rw [show t + 1 + ((j - 1 : Nat) : Int) = t + (j : Int) by omega]; exact hp⟩
   have e : t + ((j2 + 1 : Nat) : Int) = t + 1 + (j2 : Int) := by omega
   refine ⟨j2 + 1, by omega, by rw [h2, e], by rw [e]; exact h3, fun i hi => ?_⟩
   cases i with
   | zero => simpa using h0
   | succ i => rw [show t + ((i + 1 : Nat) : Int) = t + 1 + (i : Int) by omega]; exact h4 i (by omega)
theorem upTo_ge (p : Int → Bool) : ∀ (k : Nat) (t : Int), t ≤ upTo p k t
 | 0, t => Int.le_refl _
 | k + 1, t => by
  unfold upTo
  split
  ·exact Int.le_refl _
  ·have := upTo_ge p k (t + 1); omega
theorem nearU_far {S : Su} (hS : SuOk S) {a b : Nat} (ha : a < 4) (hb : b < 4) {t u : Int} (h : u + 1000 ≤ t) : nearU S a b t u = false := by
 unfold nearU
 have := (hS.g (4 * a + b) (by omega)).2
 rw [decide_eq_false (by omega)]
 rfl
theorem nearF_far {S : Su} (hS : SuOk S) {f : Fl} (hf : FlOk f) (call : ByteArray) {k : Nat} (hk : k < 4) {t : Int} (h : 201000 ≤ t) : nearF S call k t f = false := by
 have h1 := hf.wk; have h2 := hf.land; have h3 := hf.nland
 unfold nearF
 rw [nearU_far hS (by omega) hk (by omega), nearU_far hS (by omega) hk (by omega)]
 simp
theorem freeP_far {S : Su} (hS : SuOk S) {fl : List Fl} (hf : ∀ f ∈ fl, FlOk f) (call : ByteArray) {k : Nat} (hk : k < 4) {t : Int} (h : 201000 ≤ t) : freeP S fl call k t = true := by
 unfold freeP
 rw [Bool.not_eq_true', List.any_eq_false]
 intro f hm
 rw [nearF_far hS (hf f hm) call hk h]
 simp
theorem landP_spec {S : Su} (hS : SuOk S) {fl : List Fl} (hf : ∀ f ∈ fl, FlOk f) (call : ByteArray) {wk : Int} (hw : 0 ≤ wk ∧ wk ≤ 3) {l : Tu} (h0 : 0 ≤ lstT l) (h1 : lstT l ≤ 200000) :
  ∃ j : Nat, j < farN ∧ landP S fl call wk l = lstT l + j ∧ freeP S fl call wk.toNat (lstT l + j) = true ∧ ∀ i : Nat, i < j → freeP S fl call wk.toNat (lstT l + i) = false := by
 unfold landP
 exact upTo_spec _ _ _ ⟨201000, by unfold farN; omega, freeP_far hS hf call (by omega) (by omega)⟩
theorem landP_ge (S : Su) (fl : List Fl) (call : ByteArray) (wk : Int) (l : Tu) : lstT l ≤ landP S fl call wk l := upTo_ge _ _ _
theorem isO_spec {l : List Ow} {s : ByteArray} (h : isO l s = true) : lowO l s < l.length ∧ (l[lowO l s]!).call = s := by
 unfold isO at h
 simp only [Bool.and_eq_true, decide_eq_true_eq] at h
 exact h
theorem be_zero {l : List Ow} {s b : ByteArray} (h : beE l s b = 0) : nameB s = true ∧ nameB b = true ∧ isO l s = false := by
 unfold beE at h
 by_cases h1 : nameB s = false ∨ nameB b = false
 ·rw [if_pos h1] at h; cases h
 ·rw [if_neg h1] at h
  by_cases h2 : isO l s = true
  ·rw [if_pos h2] at h; cases h
  ·refine ⟨?_, ?_, by simpa using h2⟩
   ·cases h3 : nameB s with
    | true => rfl
    | false => exact absurd (.inl h3) h1
   ·cases h3 : nameB b with
    | true => rfl
    | false => exact absurd (.inr h3) h1
theorem name_ne {s : ByteArray} (h : nameB s = true) : s ≠ .empty := by
 intro e
 have := (name_size h).1
 rw [e] at this
 exact absurd this (by decide)
theorem TuOk.fst0 {l : Tu} (h : TuOk l) : 0 ≤ fstT l := (h.nd 0 h.n0).t0
theorem TuOk.fst1 {l : Tu} (h : TuOk l) : fstT l ≤ 200000 := (h.nd 0 h.n0).t1
theorem TuOk.lst0 {l : Tu} (h : TuOk l) : 0 ≤ lstT l := (h.nd _ (by have := h.n0; omega)).t0
theorem TuOk.lst1 {l : Tu} (h : TuOk l) : lstT l ≤ 200000 := (h.nd _ (by have := h.n0; omega)).t1
theorem TuOk.ends {l : Tu} (h : TuOk l) : fstT l ≤ lstT l := by
 have := h.n0
 unfold fstT lstT
 by_cases e : l.length - 1 = 0
 ·rw [e]; exact Int.le_refl _
 ·exact Int.le_of_lt (h.lt (l.length - 1) 0 (by omega) (by omega))
theorem calls_set {l : List Fl} {p : Nat} {f : Fl} (h : f.call = (l[p]!).call) : (l.set p f).map (·.call) = l.map (·.call) := by
 apply List.ext_getElem?
 intro i
 rw [List.getElem?_map, List.getElem?_map, List.getElem?_set]
 split
 ·rename_i e; subst e
  split
  ·rename_i hl
   rw [getElem!_pos l p hl] at h
   rw [List.getElem?_eq_getElem hl]
   simp [h]
  ·rename_i hl
   rw [List.getElem?_eq_none (by omega)]
 ·rfl
theorem owcalls_set {l : List Ow} {p : Nat} {f : Ow} (h : f.call = (l[p]!).call) : (l.set p f).map (·.call) = l.map (·.call) := by
 apply List.ext_getElem?
 intro i
 rw [List.getElem?_map, List.getElem?_map, List.getElem?_set]
 split
 ·rename_i e; subst e
  split
  ·rename_i hl
   rw [getElem!_pos l p hl] at h
   rw [List.getElem?_eq_getElem hl]
   simp [h]
  ·rename_i hl
   rw [List.getElem?_eq_none (by omega)]
 ·rfl
theorem chOff_ok {b t : ByteArray} {x : Ow} (hx : OwE x) (h : (chOff b t x).2 = 0) : OwE (chOff b t x).1 ∧ (chOff b t x).1.call = x.call := by
 unfold chOff at h ⊢
 by_cases h1 : x.owner = b
 ·rw [if_pos h1] at h ⊢
  by_cases h2 : x.off = .empty
  ·rw [if_pos h2] at h ⊢
   by_cases h3 : nameB t = true
   ·rw [if_pos h3] at h ⊢
    by_cases h4 : t = b
    ·rw [if_pos h4] at h; cases h
    ·rw [if_neg h4]
     exact ⟨⟨hx.call, hx.owner, .inr h3, fun e => h4 (e.trans h1)⟩, rfl⟩
   ·rw [if_neg h3] at h; cases h
  ·rw [if_neg h2] at h; cases h
 ·rw [if_neg h1] at h; cases h
theorem chAcc_ok {b : ByteArray} {x : Ow} (hx : OwE x) (h : (chAcc b x).2 = 0) : OwE (chAcc b x).1 ∧ (chAcc b x).1.call = x.call := by
 unfold chAcc at h ⊢
 by_cases h1 : x.off = .empty
 ·rw [if_pos h1] at h; cases h
 ·rw [if_neg h1] at h ⊢
  by_cases h2 : x.off = b
  ·rw [if_pos h2]
   have hb : nameB b = true := by
    rcases hx.off with h3 | h3
    ·exact absurd h3 h1
    ·rw [← h2]; exact h3
   exact ⟨⟨hx.call, hb, .inl rfl, fun e => name_ne hb e.symm⟩, rfl⟩
  ·rw [if_neg h2] at h; cases h
def OwSame (l m : List Ow) : Prop := OwOk m ∧ m.map (·.call) = l.map (·.call) ∧ m.length = l.length
theorem OwSame.refl {l : List Ow} (h : OwOk l) : OwSame l l := ⟨h, rfl, rfl⟩
theorem OwSame.set {l : List Ow} (h : OwOk l) {i : Nat} (hi : i < l.length) {y : Ow} (hy : OwE y) (hc : y.call = (l[i]!).call) : OwSame l (l.set i y) :=
 ⟨setO_ok h hi hy hc, owcalls_set hc, by simp⟩
theorem offP_same {l : List Ow} (h : OwOk l) (s b t : ByteArray) : OwSame l (offP l s b t).1 := by
 unfold offP
 by_cases h1 : isO l s = true
 ·rw [if_pos h1]
  have hp := (isO_spec h1).1
  by_cases h2 : (chOff b t l[lowO l s]!).2 = 0
  ·rw [if_pos h2]
   have := chOff_ok (h.e _ hp) h2
   exact OwSame.set h hp this.1 this.2
  ·rw [if_neg h2]; exact OwSame.refl h
 ·rw [if_neg h1]; exact OwSame.refl h
theorem accP_same {l : List Ow} (h : OwOk l) (s b : ByteArray) : OwSame l (accP l s b).1 := by
 unfold accP
 by_cases h1 : isO l s = true
 ·rw [if_pos h1]
  have hp := (isO_spec h1).1
  by_cases h2 : (chAcc b l[lowO l s]!).2 = 0
  ·rw [if_pos h2]
   have := chAcc_ok (h.e _ hp) h2
   exact OwSame.set h hp this.1 this.2
  ·rw [if_neg h2]; exact OwSame.refl h
 ·rw [if_neg h1]; exact OwSame.refl h
structure MOk (c d : Ce) : Prop where
 ow : OwOk d.ow
 calls : d.fl.map (·.call) = d.ow.map (·.call)
 fl : ∀ f ∈ d.fl, FlOk f
 cnt : d.ow.length ≤ c.acc + 1
 t : d.time = c.time
 log : d.log = c.log
 acc : d.acc = c.acc
theorem MOk.refl {c : Ce} (h : CeOk c) : MOk c c := ⟨h.ow, h.calls, h.fl, by have := h.cnt; omega, rfl, rfl, rfl⟩
theorem flOf_mem {c : Ce} (h : CeOk c) {x : Inp} (hi : isO c.ow x.call = true) : lowO c.ow x.call < c.fl.length ∧ flOf c x ∈ c.fl ∧ FlOk (flOf c x) := by
 have hp := (isO_spec hi).1
 rw [← h.len] at hp
 have hm : flOf c x ∈ c.fl := by unfold flOf; rw [getElem!_pos c.fl _ hp]; exact List.getElem_mem hp
 exact ⟨hp, hm, h.fl _ hm⟩
theorem MOk.setF {c : Ce} (h : CeOk c) (x : Inp) {f : Fl} (hf : FlOk f) (hc : f.call = (flOf c x).call) : MOk c (setF c x f) := by
 refine ⟨h.ow, ?_, fun g hg => ?_, by have := h.cnt; show c.ow.length ≤ _; omega, rfl, rfl, rfl⟩
 ·unfold Go.Proofs.YtaebebpldkciiaaGreatDoor.setF
  simp only
  rw [calls_set hc]; exact h.calls
 ·rcases List.mem_or_eq_of_mem_set hg with hg | rfl
  ·exact h.fl _ hg
  ·exact hf
theorem map_ins {c : Ce} (h : CeOk c) (f : Fl) (y : Ow) (hc : f.call = y.call) : (insF c.fl (lowO c.ow y.call) f).map (·.call) = (insO c.ow y).map (·.call) := by
 unfold insF insO
 rw [List.map_append, List.map_cons, List.map_append, List.map_cons, List.map_take, List.map_drop, List.map_take, List.map_drop, h.calls, hc]
theorem map_del {c : Ce} (h : CeOk c) (p : Nat) : (delL c.fl p).map (·.call) = (delL c.ow p).map (·.call) := by
 unfold delL
 rw [List.map_append, List.map_append, List.map_take, List.map_drop, List.map_take, List.map_drop, h.calls]
theorem fileE_zero {S : Su} {c : Ce} {x : Inp} (h : fileE S c x = 0) : beE c.ow x.call x.by_ = 0 ∧ TuOk x.tube ∧ (0 ≤ x.wake ∧ x.wake ≤ 3) ∧ (0 ≤ x.slot ∧ x.slot ≤ 200000) ∧ x.time ≤ fstT x.tube ∧ lstT x.tube - fstT x.tube ≤ 3600 ∧ clashP S c.fl x.call x.tube = false ∧ (x.lands = true → landP S c.fl x.call x.wake x.tube ≤ x.slot) := by
 unfold fileE at h
 by_cases h1 : beE c.ow x.call x.by_ ≠ 0
 ·rw [if_pos h1] at h; exact absurd h h1
 rw [if_neg h1] at h
 by_cases h2 : tuE x.tube ≠ 0
 ·rw [if_pos h2] at h; exact absurd h h2
 rw [if_neg h2] at h
 by_cases h3 : x.wake < 0 ∨ 3 < x.wake ∨ x.slot < 0 ∨ 200000 < x.slot
 ·rw [if_pos h3] at h; cases h
 rw [if_neg h3] at h
 by_cases h4 : fstT x.tube < x.time
 ·rw [if_pos h4] at h; cases h
 rw [if_neg h4] at h
 by_cases h5 : 3600 < lstT x.tube - fstT x.tube
 ·rw [if_pos h5] at h; cases h
 rw [if_neg h5] at h
 by_cases h6 : clashP S c.fl x.call x.tube = true
 ·rw [if_pos h6] at h; cases h
 rw [if_neg h6] at h
 by_cases h7 : x.lands = true ∧ x.slot < landP S c.fl x.call x.wake x.tube
 ·rw [if_pos h7] at h; cases h
 exact ⟨by omega, tuOk_of (by omega), by omega, by omega, by omega, by omega, by simpa using h6, fun hl => by
  rcases Int.lt_or_le x.slot (landP S c.fl x.call x.wake x.tube) with h8 | h8
  ·exact absurd ⟨hl, h8⟩ h7
  ·exact h8⟩
theorem newF_ok {S : Su} {c : Ce} {x : Inp} (h : fileE S c x = 0) : FlOk (newF S c x) := by
 obtain ⟨h1, h2, h3, h4, h5, h6, h7, h8⟩ := fileE_zero h
 refine ⟨h3, h4, by simp [newF], by simp [newF], fun i hi => ?_, fun i h0 hi => ?_, .inl rfl, ?_, ?_, by simp [newF]⟩
 ·simp only [newF, List.length_singleton] at hi ⊢
  obtain rfl : i = 0 := by omega
  simpa using h2
 ·simp only [newF, List.length_singleton] at hi
  omega
 ·simp [newF]
 ·show 0 ≤ (if x.lands = true then landP S c.fl x.call x.wake x.tube else 0) ∧ (if x.lands = true then landP S c.fl x.call x.wake x.tube else 0) ≤ 200000
  by_cases hl : x.lands = true
  ·rw [if_pos hl]
   have := landP_ge S c.fl x.call x.wake x.tube
   have := h2.lst0; have := h8 hl
   omega
  ·rw [if_neg hl]; omega
theorem file_ok {S : Su} {c : Ce} (hc : CeOk c) (h20 : c.acc < 20) {x : Inp} (h : fileE S c x = 0) : MOk c (fileC S c x) := by
 obtain ⟨h1, h2, h3, h4, h5, h6, h7, h8⟩ := fileE_zero h
 obtain ⟨n1, n2, n3⟩ := be_zero h1
 have hcnt := hc.cnt
 have hE : OwE ⟨x.call, x.by_, .empty⟩ := ⟨n1, n2, .inl rfl, fun e => name_ne n2 e.symm⟩
 refine ⟨insO_ok hc.ow (by omega) hE n3, map_ins hc (newF S c x) ⟨x.call, x.by_, .empty⟩ rfl, fun f hf => ?_, ?_, rfl, rfl, rfl⟩
 ·unfold fileC insF at hf
  simp only at hf
  rcases List.mem_append.1 hf with hf | hf
  ·exact hc.fl _ (List.mem_of_mem_take hf)
  ·rcases List.mem_cons.1 hf with rfl | hf
   ·exact newF_ok h
   ·exact hc.fl _ (List.mem_of_mem_drop hf)
 ·show (insO c.ow ⟨x.call, x.by_, .empty⟩).length ≤ _
  rw [insO_len]; omega
theorem clearE_zero {S : Su} {c : Ce} {x : Inp} (h : clearE S c x = 0) : isO c.ow x.call = true ∧ (c.ow[lowO c.ow x.call]!).owner = x.by_ ∧ (flOf c x).next.length = 0 ∧ (flOf c x).legs.length ≠ 6 ∧ TuOk x.tube ∧
  (x.time < fstT x.tube ∧ fstT (flOf c x).legs[(flOf c x).legs.length - 1]! < fstT x.tube ∧ fstT x.tube ≤ lstT (flOf c x).legs[(flOf c x).legs.length - 1]!) ∧ lstT x.tube - fstT x.tube ≤ 3600 ∧
  insN (atN (flOf c x).legs[(flOf c x).legs.length - 1]! (fstT x.tube)) x.tube = true ∧ clashP S c.fl x.call x.tube = false ∧ ((flOf c x).lands = true → landP S c.fl x.call (flOf c x).wake x.tube ≤ (flOf c x).slot) := by
 unfold clearE at h
 by_cases h1 : isO c.ow x.call = false
 ·rw [if_pos h1] at h; cases h
 rw [if_neg h1] at h
 by_cases h2 : (c.ow[lowO c.ow x.call]!).owner ≠ x.by_
 ·rw [if_pos h2] at h; cases h
 rw [if_neg h2] at h
 by_cases h3 : 0 < (flOf c x).next.length
 ·rw [if_pos h3] at h; cases h
 rw [if_neg h3] at h
 by_cases h4 : (flOf c x).legs.length = 6
 ·rw [if_pos h4] at h; cases h
 rw [if_neg h4] at h
 by_cases h5 : tuE x.tube ≠ 0
 ·rw [if_pos h5] at h; exact absurd h h5
 rw [if_neg h5] at h
 by_cases h6 : fstT x.tube ≤ x.time ∨ fstT x.tube ≤ fstT (flOf c x).legs[(flOf c x).legs.length - 1]! ∨ lstT (flOf c x).legs[(flOf c x).legs.length - 1]! < fstT x.tube
 ·rw [if_pos h6] at h; cases h
 rw [if_neg h6] at h
 by_cases h7 : 3600 < lstT x.tube - fstT x.tube
 ·rw [if_pos h7] at h; cases h
 rw [if_neg h7] at h
 by_cases h8 : insN (atN (flOf c x).legs[(flOf c x).legs.length - 1]! (fstT x.tube)) x.tube = false
 ·rw [if_pos h8] at h; cases h
 rw [if_neg h8] at h
 by_cases h9 : clashP S c.fl x.call x.tube = true
 ·rw [if_pos h9] at h; cases h
 rw [if_neg h9] at h
 by_cases h10 : (flOf c x).lands = true ∧ (flOf c x).slot < landP S c.fl x.call (flOf c x).wake x.tube
 ·rw [if_pos h10] at h; cases h
 refine ⟨by simpa using h1, by simpa using h2, by omega, h4, tuOk_of (by simpa using h5), by omega, by omega, by simpa using h8, by simpa using h9, fun hl => ?_⟩
 rcases Int.lt_or_le (flOf c x).slot (landP S c.fl x.call (flOf c x).wake x.tube) with h11 | h11
 ·exact absurd ⟨hl, h11⟩ h10
 ·exact h11
theorem clear_ok {S : Su} {c : Ce} (hc : CeOk c) {x : Inp} (h : clearE S c x = 0) : MOk c (setF c x (clearF S c x)) := by
 obtain ⟨h1, h2, h3, h4, h5, h6, h7, h8, h9, h10⟩ := clearE_zero h
 obtain ⟨hp, hm, hf⟩ := flOf_mem hc h1
 refine MOk.setF hc x ⟨hf.wk, hf.sl, hf.n0, hf.n1, hf.legs, hf.up, .inr h5, fun _ => ⟨by have := hf.n1; show (flOf c x).legs.length < 6; omega, h6.2.1⟩, hf.land, ?_⟩ rfl
 show 0 ≤ (if (flOf c x).lands = true then landP S c.fl x.call (flOf c x).wake x.tube else 0) ∧ (if (flOf c x).lands = true then landP S c.fl x.call (flOf c x).wake x.tube else 0) ≤ 200000
 by_cases hl : (flOf c x).lands = true
 ·rw [if_pos hl]
  have := landP_ge S c.fl x.call (flOf c x).wake x.tube
  have := h5.lst0; have := h10 hl; have := hf.sl
  omega
 ·rw [if_neg hl]; omega
theorem hearE_zero {c : Ce} {x : Inp} (h : hearE c x = 0) : isO c.ow x.call = true ∧ 0 < (flOf c x).next.length ∧ x.time < fstT (flOf c x).next := by
 unfold hearE at h
 by_cases h1 : isO c.ow x.call = false
 ·rw [if_pos h1] at h; cases h
 rw [if_neg h1] at h
 by_cases h2 : (flOf c x).next.length = 0
 ·rw [if_pos h2] at h; cases h
 rw [if_neg h2] at h
 by_cases h3 : fstT (flOf c x).next ≤ x.time
 ·rw [if_pos h3] at h; cases h
 exact ⟨by simpa using h1, by omega, by omega⟩
theorem next_ok {f : Fl} (hf : FlOk f) (h : 0 < f.next.length) : TuOk f.next := by
 rcases hf.next with h1 | h1
 ·rw [h1] at h; exact absurd h (by simp)
 ·exact h1
theorem snoc_at {α : Type} [Inhabited α] (l : List α) (x : α) (i : Nat) : (l ++ [x])[i]! = if i = l.length then x else l[i]! := by
 by_cases h1 : i < l.length
 ·rw [if_neg (by omega), getElem!_pos (l ++ [x]) i (by simp; omega), getElem!_pos l i h1, List.getElem_append_left h1]
 ·by_cases h2 : i = l.length
  ·subst h2
   rw [if_pos rfl, getElem!_pos (l ++ [x]) l.length (by simp)]
   simp
  ·rw [if_neg h2, getElem!_neg (l ++ [x]) i (by simp; omega), getElem!_neg l i (by omega)]
theorem hear_ok {c : Ce} (hc : CeOk c) {x : Inp} (h : hearE c x = 0) : MOk c (setF c x (hearF c x)) := by
 obtain ⟨h1, h2, h3⟩ := hearE_zero h
 obtain ⟨hp, hm, hf⟩ := flOf_mem hc h1
 obtain ⟨n1, n2⟩ := hf.nx h2
 have hn := next_ok hf h2
 have h0 := hf.n0
 refine MOk.setF hc x ⟨hf.wk, hf.sl, by simp [hearF], by simp [hearF]; omega, fun i hi => ?_, fun i h0' hi => ?_, .inl rfl, by simp [hearF], hf.nland, by simp [hearF]⟩ rfl
 ·simp only [hearF, List.length_append, List.length_singleton] at hi ⊢
  rw [snoc_at]
  split
  ·exact hn
  ·exact hf.legs i (by omega)
 ·simp only [hearF, List.length_append, List.length_singleton] at hi ⊢
  rw [snoc_at, snoc_at, if_neg (by omega)]
  split
  ·rename_i e; rw [e]; exact n2
  ·exact hf.up i h0' (by omega)
theorem refuseE_zero {c : Ce} {x : Inp} (h : refuseE c x = 0) : isO c.ow x.call = true ∧ 0 < (flOf c x).next.length := by
 unfold refuseE at h
 by_cases h1 : isO c.ow x.call = false
 ·rw [if_pos h1] at h; cases h
 rw [if_neg h1] at h
 by_cases h2 : (flOf c x).next.length = 0
 ·rw [if_pos h2] at h; cases h
 exact ⟨by simpa using h1, by omega⟩
theorem refuse_ok {c : Ce} (hc : CeOk c) {x : Inp} (h : refuseE c x = 0) : MOk c (setF c x (refuseF c x)) := by
 obtain ⟨h1, h2⟩ := refuseE_zero h
 obtain ⟨hp, hm, hf⟩ := flOf_mem hc h1
 exact MOk.setF hc x ⟨hf.wk, hf.sl, hf.n0, hf.n1, hf.legs, hf.up, .inl rfl, by simp [refuseF], hf.land, by simp [refuseF]⟩ rfl
theorem mem_delL {α : Type} {l : List α} {p : Nat} {y : α} (h : y ∈ delL l p) : y ∈ l := by
 unfold delL at h
 rcases List.mem_append.1 h with h | h
 ·exact List.mem_of_mem_take h
 ·exact List.mem_of_mem_drop h
theorem end_ok {c : Ce} (hc : CeOk c) {x : Inp} : MOk c (endC c x) := by
 refine ⟨delO_ok hc.ow _, map_del hc _, fun f hf => hc.fl f (mem_delL hf), ?_, rfl, rfl, rfl⟩
 have := hc.cnt
 show (delL c.ow (lowO c.ow x.call)).length ≤ _
 unfold delL
 simp only [List.length_append, List.length_take, List.length_drop]
 omega
theorem meth_ok {S : Su} {c : Ce} (hc : CeOk c) (h20 : c.acc < 20) (x : Inp) : MOk c (methP S c x).1 := by
 have hcnt := hc.cnt
 unfold methP
 split
 ·split
  ·rename_i h; exact file_ok hc h20 h
  ·exact MOk.refl hc
 split
 ·have h := offP_same hc.ow x.call x.by_ x.to_
  exact ⟨h.1, by rw [h.2.1]; exact hc.calls, hc.fl, by show (offP c.ow x.call x.by_ x.to_).1.length ≤ _; rw [h.2.2]; omega, rfl, rfl, rfl⟩
 split
 ·have h := accP_same hc.ow x.call x.by_
  exact ⟨h.1, by rw [h.2.1]; exact hc.calls, hc.fl, by show (accP c.ow x.call x.by_).1.length ≤ _; rw [h.2.2]; omega, rfl, rfl, rfl⟩
 split
 ·split
  ·rename_i h; exact clear_ok hc h
  ·exact MOk.refl hc
 split
 ·split
  ·rename_i h; exact hear_ok hc h
  ·exact MOk.refl hc
 split
 ·split
  ·rename_i h; exact refuse_ok hc h
  ·exact MOk.refl hc
 split
 ·exact end_ok hc
 ·exact MOk.refl hc
theorem book_ok {c d : Ce} (hc : CeOk c) (h : MOk c d) (ks : Nat → ByteArray) {x : Inp} (h1 : c.time ≤ x.time) (h2 : x.time ≤ 200000) : CeOk (bookC ks d x) := by
 have ht := hc.t
 refine ⟨⟨by show 0 ≤ x.time; omega, h2⟩, h.ow, h.calls, h.fl, by show _ ≤ d.acc + 1; rw [h.acc]; exact h.cnt, ?_, fun e he => ?_⟩
 ·show (d.log ++ [_]).length = d.acc + 1
  rw [List.length_append, h.log, h.acc, hc.log]; rfl
 ·have he' : e ∈ d.log ++ [(⟨(d.log.length : Int) + 1, x.time, ks x.kind.toNat, x.call⟩ : Ent)] := he
  rcases List.mem_append.1 he' with he | he
  ·rw [h.log] at he
   have := hc.logt e he
   show 0 ≤ e.time ∧ e.time ≤ x.time
   omega
  ·rw [List.mem_singleton.1 he]
   show 0 ≤ x.time ∧ x.time ≤ x.time
   omega
theorem step_ok {S : Su} {c : Ce} (hc : CeOk c) (h20 : c.acc < 20) (ks : Nat → ByteArray) (x : Inp) : CeOk (stepP ks S c x).1 := by
 unfold stepP
 split
 ·exact hc
 split
 ·exact hc
 split
 ·rename_i h _
  exact book_ok hc (meth_ok hc h20 x) ks (by omega) (by omega)
 ·exact hc
theorem new_ok : CeOk newC := ⟨by decide, ⟨by decide, fun i hi => absurd hi (by simp [newC]), fun i _ hi => absurd hi (by simp [newC])⟩, rfl, fun f hf => absurd hf (by simp [newC]), by decide, rfl, fun e he => absurd he (by simp [newC])⟩
theorem step_acc {S : Su} {c : Ce} (hc : CeOk c) (h20 : c.acc < 20) (ks : Nat → ByteArray) (x : Inp) : (stepP ks S c x).1.acc ≤ c.acc + 1 := by
 have hm := (meth_ok (S := S) hc h20 x).acc
 unfold stepP
 split
 ·show c.acc ≤ _; omega
 split
 ·show c.acc ≤ _; omega
 split
 ·show (methP S c x).1.acc + 1 ≤ _; omega
 ·show c.acc ≤ _; omega
end
end Go.Proofs.YtaebebpldkciiaaGreatDoor
