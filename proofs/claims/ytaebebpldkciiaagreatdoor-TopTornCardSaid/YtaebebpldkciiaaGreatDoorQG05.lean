/- Contracts and plain words, part 5: texts Flat, Rw, Str, M1, P4, Name, T11, T12, CloneOw. -/
import Derived.Test.YtaebebpldkciiaaGreatDoorQG01
import Derived.Test.YtaebebpldkciiaaGreatDoorQG04
import Derived.Sort.Walk0
import Derived.Lib.ConvBytes
import Derived.Deep.QuietTactic
import Derived.Handy
import Derived.Test.YtaebebpldkciiaaGreatDoorQG02
import Derived.Lib.QuietBelow
import Derived.Deep.Cut
namespace Go.Proofs.YtaebebpldkciiaaGreatDoor
section
open Go.RowKit
def flatR (row : Nat → List Value) (n : Nat) : List Value := (List.range n).flatMap row
theorem flatR_succ (row : Nat → List Value) (n : Nat) : flatR row (n + 1) = flatR row n ++ row n := by simp [flatR, List.range_succ]
theorem flatR_len {row : Nat → List Value} {k : Nat} : ∀ n, (∀ i, i < n → (row i).length = k) → (flatR row n).length = n * k
 | 0, _ => by simp [flatR]
 | n + 1, h => by rw [flatR_succ, List.length_append, flatR_len n (fun i hi => h i (by omega)), h n (by omega), Nat.add_mul, Nat.one_mul]
theorem flatR_get {row : Nat → List Value} {k : Nat} : ∀ n, (∀ i, i < n → (row i).length = k) → ∀ i j, i < n → j < k → (flatR row n)[i * k + j]? = (row i)[j]?
 | 0, _, i, _, hi, _ => by omega
 | n + 1, h, i, j, hi, hj => by
  have hl := flatR_len (k := k) n (fun i hi => h i (by omega))
  rw [flatR_succ]
  by_cases e : i = n
  ·subst e
   rw [List.getElem?_append_right (by omega), hl, Nat.add_sub_cancel_left]
  ·have : i * k + j < n * k := by
    have h2 : (i + 1) * k ≤ n * k := Nat.mul_le_mul_right k (by omega)
    rw [Nat.add_mul, Nat.one_mul] at h2
    omega
   rw [List.getElem?_append_left (by omega)]
   exact flatR_get n (fun i hi => h i (by omega)) i j (by omega) hj
theorem flatR_mem {row : Nat → List Value} {n : Nat} {u : Value} (h : u ∈ flatR row n) : ∃ i, i < n ∧ u ∈ row i := by
 simp only [flatR, List.mem_flatMap, List.mem_range] at h
 exact h
theorem flatR_at {row : Nat → List Value} {n k : Nat} (hk : 0 < k) (h : ∀ i, i < n → (row i).length = k) {p : Nat} {u : Value} (hp : (flatR row n)[p]? = some u) : p / k < n ∧ (row (p / k))[p % k]? = some u := by
 have hl := flatR_len (k := k) n h
 have hlt : p < n * k := by
  rcases Nat.lt_or_ge p (n * k) with h' | h'
  ·exact h'
  ·rw [List.getElem?_eq_none (by omega)] at hp; cases hp
 have h1 : p / k < n := (Nat.div_lt_iff_lt_mul hk).2 hlt
 refine ⟨h1, ?_⟩
 rw [← flatR_get n h (p / k) (p % k) h1 (Nat.mod_lt _ hk), Nat.div_add_mod']
 exact hp
theorem flatR_set {row : Nat → List Value} {n k : Nat} (hk : 0 < k) (h : ∀ i, i < n → (row i).length = k) (i j : Nat) (hi : i < n) (hj : j < k) (u : Value) :
  (flatR row n).set (i * k + j) u = flatR (fun x => if x = i then (row i).set j u else row x) n := by
 have h' : ∀ x, x < n → (if x = i then (row i).set j u else row x).length = k := fun x hx => by
  split
  ·rw [List.length_set]; exact h i hi
  ·exact h x hx
 have hlt : i * k + j < n * k := by
  have h2 : (i + 1) * k ≤ n * k := Nat.mul_le_mul_right k (by omega)
  rw [Nat.add_mul, Nat.one_mul] at h2
  omega
 apply List.ext_getElem?
 intro p
 rcases Nat.lt_or_ge p (n * k) with hp | hp
 ·have e : p / k * k + p % k = p := Nat.div_add_mod' p k
  have h1 : p / k < n := (Nat.div_lt_iff_lt_mul hk).2 hp
  have h2 := Nat.mod_lt p hk
  have g1 := flatR_get n h (p / k) (p % k) h1 h2
  have g2 := flatR_get n h' (p / k) (p % k) h1 h2
  rw [e] at g1 g2
  rw [g2]
  by_cases hpe : i * k + j = p
  ·subst hpe
   have d1 : (i * k + j) / k = i := by rw [Nat.mul_comm, Nat.mul_add_div hk, Nat.div_eq_of_lt hj, Nat.add_zero]
   have d2 : (i * k + j) % k = j := by rw [Nat.mul_comm, Nat.mul_add_mod, Nat.mod_eq_of_lt hj]
   rw [d1, d2, if_pos rfl, List.getElem?_set_self (by rw [flatR_len n h]; exact hlt), List.getElem?_set_self (by rw [h i hi]; exact hj)]
  ·rw [List.getElem?_set_ne hpe, g1]
   by_cases hpi : p / k = i
   ·rw [if_pos hpi, List.getElem?_set_ne (fun e' => hpe (by rw [← e, hpi, e'])), hpi]
   ·rw [if_neg hpi]
 ·rw [List.getElem?_eq_none (by rw [List.length_set, flatR_len n h]; exact hp), List.getElem?_eq_none (by rw [flatR_len n h']; exact hp)]
theorem Sl_news {w : World} {B k n : Nat} {A : Option Addr} {row : Nat → List Value} {ad : Addr} (hk : 0 < k) (h : Sl w B k A n row) (hA : A = some ad) (hl : ∀ i, i < n → (row i).length = k) :
  ∀ j u, (flatR row n)[j]? = some u → w.cell? (ad.add j) = some u := by
 intro j u hu
 obtain ⟨h1, h2⟩ := flatR_at hk hl hu
 obtain ⟨b, off, e, _, hr⟩ := h (Nat.lt_of_le_of_lt (Nat.zero_le _) h1)
 rw [hA] at e
 injection e with e
 subst e
 have := hr (j / k) h1 (j % k) u h2
 rw [Addr.add_mid]
 rw [Nat.add_assoc, Nat.div_add_mod'] at this
 exact this
end
section
open Go.RowKit
section
variable {α : Type} (enc : α → List Value)
def rowsV (l : List α) : List Value := l.flatMap enc
theorem rowsV_cons (x : α) (l : List α) : rowsV enc (x :: l) = enc x ++ rowsV enc l := by simp [rowsV]
theorem rowsV_append (l m : List α) : rowsV enc (l ++ m) = rowsV enc l ++ rowsV enc m := by simp [rowsV]
theorem rowsV_snoc (l : List α) (x : α) : rowsV enc (l ++ [x]) = rowsV enc l ++ enc x := by simp [rowsV]
variable {enc} {k : Nat} (hk : ∀ x, (enc x).length = k)
include hk
theorem rowsV_len : ∀ l : List α, (rowsV enc l).length = l.length * k
 | [] => by simp [rowsV]
 | x :: l => by rw [rowsV_cons, List.length_append, hk, rowsV_len l, List.length_cons, Nat.add_mul]; omega
theorem rowsV_take (i : Nat) (l : List α) (hi : i ≤ l.length) : (rowsV enc l).take (i * k) = rowsV enc (l.take i) := by
 have h1 := rowsV_len hk (l.take i)
 rw [List.length_take, Nat.min_eq_left hi] at h1
 conv => lhs; rw [← List.take_append_drop i l, rowsV_append]
 rw [List.take_append_of_le_length (by omega), List.take_of_length_le (by omega)]
theorem rowsV_drop (i : Nat) (l : List α) (hi : i ≤ l.length) : (rowsV enc l).drop (i * k) = rowsV enc (l.drop i) := by
 have h1 := rowsV_len hk (l.take i)
 rw [List.length_take, Nat.min_eq_left hi] at h1
 conv => lhs; rw [← List.take_append_drop i l, rowsV_append]
 rw [List.drop_append_of_le_length (by omega), List.drop_of_length_le (by omega), List.nil_append]
theorem rowsV_at (l : List α) (i : Nat) (hi : i < l.length) (j : Nat) (hj : j < k) : (rowsV enc l)[i * k + j]? = (enc l[i])[j]? := by
 rw [← List.getElem?_drop, rowsV_drop hk i l (by omega), List.drop_eq_getElem_cons hi, rowsV_cons, List.getElem?_append_left (by rw [hk]; exact hj)]
theorem rowsV_put (l : List α) (i : Nat) (hi : i < l.length) (x : α) : (rowsV enc l).take (i * k) ++ enc x ++ (rowsV enc l).drop ((i + 1) * k) = rowsV enc (l.set i x) := by
 rw [rowsV_take hk i l (by omega), rowsV_drop hk (i + 1) l (by omega), List.set_eq_take_append_cons_drop, if_pos hi, rowsV_append, rowsV_cons, List.append_assoc]
theorem rowsV_ins (l : List α) (i : Nat) (hi : i ≤ l.length) (x : α) : (rowsV enc l).take (i * k) ++ enc x ++ (rowsV enc l).drop (i * k) = rowsV enc (l.take i ++ x :: l.drop i) := by
 rw [rowsV_take hk i l hi, rowsV_drop hk i l hi, rowsV_append, rowsV_cons, List.append_assoc]
theorem rowsV_cut (l : List α) (i : Nat) (hi : i < l.length) : (rowsV enc l).take (i * k) ++ (rowsV enc l).drop ((i + 1) * k) = rowsV enc (l.take i ++ l.drop (i + 1)) := by
 rw [rowsV_take hk i l (by omega), rowsV_drop hk (i + 1) l (by omega), rowsV_append]
omit hk in
theorem rowsV_one (h : ∀ x, ∀ u ∈ enc x, u.oneCell' = true) (l : List α) : ∀ u ∈ rowsV enc l, u.oneCell' = true := fun u hu => by
 simp only [rowsV, List.mem_flatMap] at hu
 obtain ⟨x, _, hu⟩ := hu
 exact h x u hu
variable [Inhabited α]
theorem rowsV_flat (l : List α) : rowsV enc l = flatR (fun i => enc l[i]!) l.length := by
 apply List.ext_getElem?
 intro p
 have h1 := rowsV_len hk l
 have h2 := flatR_len (row := fun i => enc l[i]!) (k := k) l.length (fun i _ => hk _)
 rcases Nat.eq_zero_or_pos k with h0 | h0
 ·subst h0
  rw [List.getElem?_eq_none (by omega), List.getElem?_eq_none (by omega)]
 rcases Nat.lt_or_ge p (l.length * k) with hp | hp
 ·have e : p / k * k + p % k = p := Nat.div_add_mod' p k
  have h3 : p / k < l.length := (Nat.div_lt_iff_lt_mul h0).2 hp
  have h4 := Nat.mod_lt p h0
  have g1 := rowsV_at hk l (p / k) h3 (p % k) h4
  have g2 := flatR_get (row := fun i => enc l[i]!) (k := k) l.length (fun i _ => hk _) (p / k) (p % k) h3 h4
  rw [e] at g1 g2
  rw [g1, g2, getElem!_pos l _ h3]
 ·rw [List.getElem?_eq_none (by omega), List.getElem?_eq_none (by omega)]
theorem rowsV_cell (l : List α) (i : Nat) (hi : i < l.length) (j : Nat) (hj : j < k) (u : Value) (x : α) (h : (enc l[i]!).set j u = enc x) : (rowsV enc l).set (i * k + j) u = rowsV enc (l.set i x) := by
 rw [rowsV_flat hk l, flatR_set (k := k) (by omega) (fun _ _ => hk _) i j hi hj, rowsV_flat hk (l.set i x), List.length_set]
 unfold flatR
 rw [List.flatMap_def, List.flatMap_def]
 congr 1
 refine List.map_congr_left fun y hy => ?_
 have hy : y < l.length := List.mem_range.1 hy
 by_cases e : y = i
 ·subst e
  rw [if_pos rfl, h, getElem!_pos _ y (by simpa using hy)]
  simp
 ·rw [if_neg e, getElem!_pos l y hy, getElem!_pos _ y (by simpa using hy), List.getElem_set, if_neg (fun h => e h.symm)]
theorem Sl_rows {w : World} {base n c : Nat} {e : TypeId} {A : Option Addr} {l : List α} (h : w.ownsRow base e k (.slice A n c) n (rowsV enc l)) (hn : l.length = n) (_ : 0 < k) : Sl w w.heap.size k A n (fun i => enc l[i]!) := by
 refine Sl.of_own h (Nat.le_refl _) fun i hi j v hj => ?_
 have hjk : j < k := by rw [← hk l[i]!]; exact (List.getElem?_eq_some_iff.1 hj).1
 rw [rowsV_at hk l i (by omega) j hjk]
 rw [getElem!_pos l i (by omega)] at hj
 exact hj
end
end
section
open Go.RowKit
def lsS (x y : ByteArray) : Bool := Op.bytesLess x.toList y.toList
def cmpS (x y : ByteArray) : Int := if lsS x y = true then -1 else if x = y then 0 else 1
theorem ba_ext {x y : ByteArray} (h : x.toList = y.toList) : x = y := by
 rw [ByteArray.toList_eq, ByteArray.toList_eq] at h
 cases x; cases y
 simp at h
 rw [h]
theorem lsS_iff {x y : ByteArray} : lsS x y = true ↔ x.toList < y.toList := by
 unfold lsS; rw [bytesLess_eq, decide_eq_true_eq]
theorem lsS_irr (x : ByteArray) : lsS x x = false := by
 rw [Bool.eq_false_iff]; intro h; exact List.lt_irrefl _ (lsS_iff.1 h)
theorem lsS_tr {x y z : ByteArray} (h1 : lsS x y = true) (h2 : lsS y z = true) : lsS x z = true := lsS_iff.2 (List.lt_trans (lsS_iff.1 h1) (lsS_iff.1 h2))
theorem lsS_anti {x y : ByteArray} (h1 : lsS x y = false) (h2 : lsS y x = false) : x = y := by
 rw [Bool.eq_false_iff] at h1 h2
 refine ba_ext ?_
 have a1 : ¬ x.toList < y.toList := fun h => h1 (lsS_iff.2 h)
 have a2 : ¬ y.toList < x.toList := fun h => h2 (lsS_iff.2 h)
 exact List.le_antisymm (List.not_lt.1 a2) (List.not_lt.1 a1)
theorem lsS_asymm {x y : ByteArray} (h1 : lsS x y = true) : lsS y x = false := by
 rw [Bool.eq_false_iff]; intro h2
 have := lsS_tr h1 h2
 rw [lsS_irr] at this; cases this
theorem cmpS_lt {x y : ByteArray} : cmpS x y < 0 ↔ lsS x y = true := by
 unfold cmpS
 by_cases h : lsS x y = true
 ·simp [h]
 ·rw [if_neg h]
  by_cases e : x = y
  ·rw [if_pos e]; simp [h]
  ·rw [if_neg e]; simp [h]
theorem cmpS_eq {x y : ByteArray} : cmpS x y = 0 ↔ x = y := by
 unfold cmpS
 by_cases h : lsS x y = true
 ·rw [if_pos h]
  refine ⟨fun h' => by omega, fun e => ?_⟩
  subst e; rw [lsS_irr] at h; cases h
 ·rw [if_neg h]
  by_cases e : x = y
  ·rw [if_pos e]; simp [e]
  ·rw [if_neg e]; simp [e]
theorem ba_beq {x y : ByteArray} : (x.toList == y.toList) = decide (x = y) := by
 by_cases h : x = y
 ·subst h; simp
 ·have : ¬ x.toList = y.toList := fun e => h (ba_ext e)
  simp [h, this]
set_option maxHeartbeats 400000 in
theorem isNaN_any (x : ByteArray) (w : World) : Calls Tryz.prog 195 #[.string x] w fun e w' => e = .returned (.bool false) ∧ w = w' := by
 go_enter Tryz.func195, Tryz.ntmps195
 go_wp2
 go_ret
 exact ⟨rfl, rfl⟩
set_option maxHeartbeats 1000000 in
theorem Compare_any (x y : ByteArray) (w : World) : Calls Tryz.prog 158 #[.string x, .string y] w fun e w' => e = .returned (.int .i64 (cmpS x y)) ∧ w = w' := by
 by_cases h1 : lsS x y = true
 ·have HR := Lib.hid (show cmpS x y = -1 by unfold cmpS; rw [if_pos h1])
  have l1 : Op.bytesLess x.toList y.toList = true := h1
  clear h1
  go_enter Tryz.func158, Tryz.ntmps158
  go_wp2_with (go_at_call 195; refine (isNaN_any _ _).mono ?_; rintro e w' ⟨rfl, rfl⟩)
  go_ret
  exact ⟨by rw [HR.out]; rfl, rfl⟩
 ·have l1 : Op.bytesLess x.toList y.toList = false := by simpa [lsS] using h1
  by_cases h2 : x = y
  ·subst h2
   have HR := Lib.hid (show cmpS x x = 0 by unfold cmpS; rw [if_neg h1, if_pos rfl])
   clear h1
   go_enter Tryz.func158, Tryz.ntmps158
   go_wp2_with (go_at_call 195; refine (isNaN_any _ _).mono ?_; rintro e w' ⟨rfl, rfl⟩)
   go_ret
   exact ⟨by rw [HR.out]; rfl, rfl⟩
  ·have HR := Lib.hid (show cmpS x y = 1 by unfold cmpS; rw [if_neg h1, if_neg h2])
   have l2 : (x.toList == y.toList) = false := by rw [ba_beq]; simp [h2]
   clear h1 h2
   go_enter Tryz.func158, Tryz.ntmps158
   go_wp2_with (go_at_call 195; refine (isNaN_any _ _).mono ?_; rintro e w' ⟨rfl, rfl⟩)
   go_ret
   exact ⟨by rw [HR.out]; rfl, rfl⟩
end
section
open Go.RowKit
structure Fm where
 call : ByteArray
 wake : Int
 slot : Int
 lands : Bool
 la : Option Addr
 ln : Nat
 lc : Nat
 na : Option Addr
 nn : Nat
 nc : Nat
 land : Int
 nland : Int
instance : Inhabited Fm := ⟨⟨.empty, 0, 0, false, none, 0, 0, none, 0, 0, 0, 0⟩⟩
def fmV (x : Fm) : List Value := [.string x.call, .int .i64 x.wake, .int .i64 x.slot, .bool x.lands, .slice x.la x.ln x.lc, .slice x.na x.nn x.nc, .int .i64 x.land, .int .i64 x.nland]
theorem fmV_len (x : Fm) : (fmV x).length = 8 := rfl
def fmA (x : Fm) : Value := .agg #[.string x.call, .int .i64 x.wake, .int .i64 x.slot, .bool x.lands, .slice x.la x.ln x.lc, .slice x.na x.nn x.nc, .int .i64 x.land, .int .i64 x.nland]
structure Ow where
 call : ByteArray
 owner : ByteArray
 off : ByteArray
instance : Inhabited Ow := ⟨⟨.empty, .empty, .empty⟩⟩
def owV (x : Ow) : List Value := [.string x.call, .string x.owner, .string x.off]
theorem owV_len (x : Ow) : (owV x).length = 3 := rfl
end
section
open Go.RowKit
structure Fl where
 call : ByteArray
 wake : Int
 slot : Int
 lands : Bool
 legs : List Tu
 next : Tu
 land : Int
 nland : Int
instance : Inhabited Fl := ⟨⟨.empty, 0, 0, false, [], [], 0, 0⟩⟩
def nodeAt (l : Tu) (t : Int) : List Nd := if (tubeAt l t).2 = 0 then [(tubeAt l t).1] else []
def legP (legs : List Tu) (t : Int) : List Nd := match legs.reverse.find? fun l => decide (fstT l ≤ t) with
 | none => []
 | some l => nodeAt l t
def placesP (f : Fl) (t : Int) : List Nd := legP f.legs t ++ nodeAt f.next t
def TusA (A : Option Addr) (n : Nat) (legs : List Tu) (W : World) : Prop :=
 legs.length = n ∧ (0 < n → ∃ b off, A = some ⟨b, off, none⟩ ∧ b < W.heap.size ∧ ∀ i, i < n → ∃ B m d, W.cell? ⟨b, off + i, none⟩ = some (.slice B m d) ∧ TuA B m legs[i]! W)
theorem TusA.below {A : Option Addr} {n : Nat} {legs : List Tu} {w W : World} (h : TusA A n legs w) (hb : Below w.heap.size w W) : TusA A n legs W := by
 refine ⟨h.1, fun h0 => ?_⟩
 obtain ⟨b, off, hA, hlt, hr⟩ := h.2 h0
 refine ⟨b, off, hA, Nat.lt_of_lt_of_le hlt hb.size, fun i hi => ?_⟩
 obtain ⟨B, m, d, hc, ht⟩ := hr i hi
 exact ⟨B, m, d, (hb.cell (p := ⟨b, off + i, none⟩) hlt).trans hc, ht.below hb⟩
structure FlA (x : Fm) (f : Fl) (W : World) : Prop where
 call : x.call = f.call
 wake : x.wake = f.wake
 slot : x.slot = f.slot
 lands : x.lands = f.lands
 land : x.land = f.land
 nland : x.nland = f.nland
 legs : TusA x.la x.ln f.legs W
 next : TuA x.na x.nn f.next W
theorem FlA.below {x : Fm} {f : Fl} {w W : World} (h : FlA x f w) (hb : Below w.heap.size w W) : FlA x f W :=
 ⟨h.call, h.wake, h.slot, h.lands, h.land, h.nland, h.legs.below hb, h.next.below hb⟩
end
section
open Go.RowKit
theorem below_bytes (w : World) (e : TypeId) (s : ByteArray) : Below w.heap.size w (Lib.bytesWorld w e s) :=
 ⟨rfl, rfl, rfl, by rw [Lib.bytesWorld_size]; omega, fun k hk => Lib.bytesWorld_at_old w e s k hk⟩
def letB (i c : Nat) : Bool := (decide (65 ≤ c) && decide (c ≤ 90)) || (decide (0 < i) && decide (48 ≤ c) && decide (c ≤ 57))
def nameB (s : ByteArray) : Bool := decide (1 ≤ s.size) && decide (s.size ≤ 8) && (List.range s.size).all fun i => letB i (s.data.toList.getD i 0).toNat
set_option maxRecDepth 100000 in
set_option maxHeartbeats 2000000 in
theorem Name_any (s : ByteArray) (w : World) (hs : s.size ≤ maxLen) : Calls Tryz.prog 189 #[.string s] w fun e w' => e = .returned (.bool (nameB s)) ∧ Below w.heap.size w w' := by
 unfold maxLen at hs
 by_cases h1 : s.size < 1
 ·have HB : Hid (nameB s = false) := Lib.hid (by unfold nameB; simp; omega)
  go_enter Tryz.func189, Tryz.ntmps189
  go_wp2
  go_ret
  exact ⟨by rw [HB.out]; rfl, Below.refl _ _⟩
 by_cases h8 : 8 < s.size
 ·have HB : Hid (nameB s = false) := Lib.hid (by unfold nameB; simp; omega)
  go_enter Tryz.func189, Tryz.ntmps189
  go_wp2
  go_ret
  exact ⟨by rw [HB.out]; rfl, Below.refl _ _⟩
 have hk := fun (W : World) => Lib.run_convert_string_bytes (P := Tryz.prog) W 9 234 5 s Tryz.underlying9 Tryz.underlying234 Tryz.underlying5
 have HC := Lib.hid (fun (i : Nat) (hi : i < s.size) => Lib.bytesWorld_cell w 5 s i hi)
 go_enter Tryz.func189, Tryz.ntmps189
 go_wp2
 go_loop [16] (fun k => ∃ j : Nat, j ≤ s.size ∧ k = .int .i64 j ∧ Hid (∀ i, i < j → letB i (s.data.toList.getD i 0).toNat = true)) (fun k => s.size - (intOf k).toNat)
 case atStart => exact ⟨0, by omega, rfl, Lib.hid (fun i hi => absurd hi (by omega))⟩
 case round =>
  obtain ⟨j, hj, rfl, HL⟩ := hrel
  by_cases hlt : j < s.size
  ·have hcell := HC.out j hlt
   have hcb := UInt8.toNat_lt (s.data.toList.getD j 0)
   have HD : Hid (∀ b, letB j (s.data.toList.getD j 0).toNat = b → letB j (s.data.toList.getD j 0).toNat = b) := Lib.hid (fun _ h => h)
   generalize hc : (s.data.toList.getD j 0).toNat = c at *
   have hcc := Lib.hid hc
   clear hc
   have hj0 : (0 : Int) ≤ (j : Int) := by omega
   have hjn : (j : Int) < (s.size : Int) := by omega
   by_cases ok : letB j c = true
   ·have hgo : ∀ (_ : True), j + 1 ≤ s.size ∧ Hid (∀ i, i < j + 1 → letB i (s.data.toList.getD i 0).toNat = true) := fun _ => ⟨by omega, Lib.hid fun i hi => by
     by_cases e : i = j
     ·subst e; rw [hcc.out]; exact ok
     ·exact HL.out i (by omega)⟩
    obtain ⟨g1, g2⟩ := hgo trivial
    unfold letB at ok
    by_cases c1 : 65 ≤ c ∧ c ≤ 90
    ·obtain ⟨a1, a2⟩ := c1
     have b1 : decide ((65 : Int) ≤ (c : Int)) = true := by simp; omega
     have b2 : decide ((c : Int) ≤ 90) = true := by simp; omega
     clear ok
     go_wp2
     go_round
     case rel => exact ⟨j + 1, g1, by go_num, g2⟩
     case measure => simp [intOf]; omega
    ·have c2 : 0 < j ∧ 48 ≤ c ∧ c ≤ 57 := by simp at ok; omega
     obtain ⟨a0, a1, a2⟩ := c2
     have b1 : decide ((65 : Int) ≤ (c : Int)) = false := by simp; omega
     have b3 : decide ((48 : Int) ≤ (c : Int)) = true := by simp; omega
     have b4 : decide ((c : Int) ≤ 57) = true := by simp; omega
     have b5 : decide ((0 : Int) < (j : Int)) = true := by simp; omega
     clear ok c1
     go_wp2
     go_round
     case rel => exact ⟨j + 1, g1, by go_num, g2⟩
     case measure => simp [intOf]; omega
   ·have hfin : nameB s = false := by
     rw [Bool.eq_false_iff]
     intro h
     unfold nameB at h
     simp only [Bool.and_eq_true, List.all_eq_true, List.mem_range] at h
     have := h.2 j hlt
     rw [hcc.out] at this
     exact ok this
    have HF := Lib.hid hfin
    have ok' : ¬ (65 ≤ c ∧ c ≤ 90) ∧ ¬ (0 < j ∧ 48 ≤ c ∧ c ≤ 57) := by
     unfold letB at ok
     simp at ok
     omega
    obtain ⟨c1, c2⟩ := ok'
    clear ok hfin
    by_cases a1 : 65 ≤ c
    ·have b1 : decide ((65 : Int) ≤ (c : Int)) = true := by simp; omega
     have b2 : decide ((c : Int) ≤ 90) = false := by simp; omega
     have b4 : decide ((c : Int) ≤ 57) = false := by simp; omega
     clear c1 c2
     go_wp2
     all_goals (go_ret; exact ⟨by rw [HF.out]; rfl, below_bytes w 5 _⟩)
    ·have b1 : decide ((65 : Int) ≤ (c : Int)) = false := by simp; omega
     by_cases a2 : 0 < j
     ·have b5 : decide ((0 : Int) < (j : Int)) = true := by simp; omega
      by_cases a3 : 48 ≤ c
      ·have b3 : decide ((48 : Int) ≤ (c : Int)) = true := by simp; omega
       have b4 : decide ((c : Int) ≤ 57) = false := by simp; omega
       clear c1 c2
       go_wp2
       all_goals (go_ret; exact ⟨by rw [HF.out]; rfl, below_bytes w 5 _⟩)
      ·have b3 : decide ((48 : Int) ≤ (c : Int)) = false := by simp; omega
       clear c1 c2
       go_wp2
       all_goals (go_ret; exact ⟨by rw [HF.out]; rfl, below_bytes w 5 _⟩)
     ·have b5 : decide ((0 : Int) < (j : Int)) = false := by simp; omega
      clear c1 c2
      go_wp2
      all_goals (go_ret; exact ⟨by rw [HF.out]; rfl, below_bytes w 5 _⟩)
  ·obtain rfl : j = s.size := by omega
   have hfin : nameB s = true := by
    unfold nameB
    simp only [Bool.and_eq_true, List.all_eq_true, List.mem_range, decide_eq_true_eq]
    exact ⟨⟨by omega, by omega⟩, fun i hi => HL.out i hi⟩
   have HF := Lib.hid hfin
   clear hfin
   go_wp2
   go_ret
   exact ⟨by rw [HF.out]; rfl, below_bytes w 5 _⟩
end
section
open Go.RowKit
theorem name_size {s : ByteArray} (h : nameB s = true) : 1 ≤ s.size ∧ s.size ≤ 8 := by
 unfold nameB at h
 simp only [Bool.and_eq_true, decide_eq_true_eq] at h
 exact h.1
set_option maxHeartbeats 1000000 in
theorem OName_any (s : ByteArray) (w : World) (hs : s.size ≤ maxLen) : Calls Tryz.prog 151 #[.string s] w fun e w' => e = .returned (.bool (nameB s)) ∧ Below w.heap.size w w' := by
 have HN := Lib.hid (fun W => Name_any s W hs)
 generalize nameB s = b at *
 clear hs
 go_enter Tryz.func151, Tryz.ntmps151
 go_wp2_with (go_at_call 189; go_loud (refine (HN.out _).mono ?_; rintro e w1 ⟨rfl, hb1⟩))
 go_ret
 exact ⟨rfl, hb1⟩
structure OwE (x : Ow) : Prop where
 call : nameB x.call = true
 owner : nameB x.owner = true
 off : x.off = .empty ∨ nameB x.off = true
 ne : x.off ≠ x.owner
structure OwOk (l : List Ow) : Prop where
 n : l.length ≤ 24
 e : ∀ i, i < l.length → OwE l[i]!
 up : ∀ i, 0 < i → i < l.length → lsS (l[i - 1]!).call (l[i]!).call = true
def OwA (A : Option Addr) (n : Nat) (l : List Ow) (w : World) : Prop := l.length = n ∧ Sl w w.heap.size 3 A n (fun i => owV l[i]!)
theorem OwA.below {A : Option Addr} {n : Nat} {l : List Ow} {w w' : World} (h : OwA A n l w) (hb : Below w.heap.size w w') : OwA A n l w' := ⟨h.1, (h.2.below hb).more hb.size⟩
def OeF (C : Nat) (x : Ow) (w W : World) : Prop := w.heap.size ≤ C ∧ C < W.heap.size ∧ Below w.heap.size w W ∧ W.cell? ⟨C, 0, none⟩ = some (.string x.call) ∧ W.cell? ⟨C, 1, none⟩ = some (.string x.owner) ∧ W.cell? ⟨C, 2, none⟩ = some (.string x.off)
theorem OeF.on {C : Nat} {x : Ow} {w W W2 : World} (h : OeF C x w W) (hb : Below W.heap.size W W2) : OeF C x w W2 := by
 obtain ⟨h0, h1, h2, c0, c1, c2⟩ := h
 have := hb.size
 exact ⟨h0, by omega, h2.trans (hb.mono h2.size), (hb.cell (p := ⟨C, 0, none⟩) h1).trans c0, (hb.cell (p := ⟨C, 1, none⟩) h1).trans c1, (hb.cell (p := ⟨C, 2, none⟩) h1).trans c2⟩
theorem OeF.start {x : Ow} {w W : World} (hb : Below w.heap.size w W) : OeF W.heap.size x w (W.alloc (.cells #[.string x.call, .string x.owner, .string x.off] 136)) :=
 ⟨hb.size, by simp only [World.alloc, Array.size_push]; omega, hb.alloc hb.size _, World.cell?_alloc_new _ _ _ _, World.cell?_alloc_new _ _ _ _, World.cell?_alloc_new _ _ _ _⟩
theorem not_empty {x : ByteArray} (h : x ≠ .empty) : x.data.toList.isEmpty = false := by
 cases x with | mk a =>
 cases a with | mk l =>
 cases l with
 | nil => exact absurd rfl h
 | cons b r => rfl
set_option maxRecDepth 100000 in
set_option maxHeartbeats 8000000 in
theorem OCheck_ok (A : Option Addr) (n c : Nat) (l : List Ow) (w : World) (hA : OwA A n l w) (hok : OwOk l) :
  Calls Tryz.prog 149 #[.slice A n c] w fun e w' => e = .returned (.int .i64 0) ∧ Below w.heap.size w w' := by
 obtain ⟨hl, hS⟩ := hA
 have hn := hok.n
 rw [hl] at hn
 have HS := Lib.hid hS
 have HE := Lib.hid (fun i (hi : i < n) => hok.e i (by omega))
 have HU := Lib.hid (fun i (h0 : 0 < i) (hi : i < n) => hok.up i h0 (by omega))
 have b1 : decide ((24 : Int) < (n : Int)) = false := decide_eq_false (by omega)
 have hn0 : (0 : Int) ≤ (n : Int) := by omega
 clear hl hS hok
 go_enter Tryz.func149, Tryz.ntmps149
 go_wp2_with fail
 go_loopw [10] (fun i wr => ∃ j : Nat, j ≤ n ∧ i = .int .i64 (j : Int) ∧ Hid (Below w.heap.size w wr)) (fun i _ => n - (intOf i).toNat)
 case atStart => exact ⟨0, by omega, rfl, Lib.hid (Below.refl _ _)⟩
 case round =>
  obtain ⟨j, hj, rfl, HB⟩ := hrel
  by_cases hlt : j < n
  ·obtain ⟨bb, off, rfl, hbb, hr⟩ := HS.out (by omega)
   have l1 : (j : Int) < (n : Int) := by omega
   have l0 : (0 : Int) ≤ (j : Int) := by omega
   have hcs : ∀ q v, (owV l[j]!)[q]? = some v → wr.cell? ⟨bb, off + j * 3 + q, none⟩ = some v := fun q v hv => (HB.out.cell (p := ⟨bb, off + j * 3 + q, none⟩) hbb).trans (hr j hlt q v hv)
   have HPS : Hid (∀ (_ : 0 < j) (W : World), Below w.heap.size w W → W.cell? ⟨bb, off + (j - 1) * 3, none⟩ = some (.string (l[j - 1]!).call)) := Lib.hid fun h W hb => (hb.cell (p := ⟨bb, off + (j - 1) * 3, none⟩) hbb).trans (hr (j - 1) (by omega) 0 _ rfl)
   have hx := HE.out j hlt
   have HUj : Hid (0 < j → lsS (l[j - 1]!).call (l[j]!).call = true) := Lib.hid fun h => HU.out j h hlt
   generalize (l[j - 1]!).call = p at HPS HUj
   obtain ⟨x, hxe⟩ : ∃ x, l[j]! = x := ⟨_, rfl⟩
   rw [hxe] at hcs hx HUj
   clear hxe hr
   have d0 : wr.cell? ⟨bb, off + j * 3, none⟩ = some (.string x.call) := hcs 0 _ rfl
   have d1 : wr.cell? ⟨bb, off + j * 3 + 1, none⟩ = some (.string x.owner) := hcs 1 _ rfl
   have d2 : wr.cell? ⟨bb, off + j * 3 + 2, none⟩ = some (.string x.off) := hcs 2 _ rfl
   clear hcs
   have HF0 : Hid (OeF wr.heap.size x w (wr.alloc (.cells #[.string x.call, .string x.owner, .string x.off] 136))) := Lib.hid (OeF.start HB.out)
   have H1 := Lib.hid (fun (W : World) (C : Nat) (hb : OeF C x w W) => (OName_any x.call W (by have := (name_size hx.call).2; unfold maxLen; omega)).mono fun e W2 h => (show e = .returned (.bool true) ∧ OeF C x w W2 from ⟨by rw [h.1, hx.call], hb.on h.2⟩))
   have H2 := Lib.hid (fun (W : World) (C : Nat) (hb : OeF C x w W) => (OName_any x.owner W (by have := (name_size hx.owner).2; unfold maxLen; omega)).mono fun e W2 h => (show e = .returned (.bool true) ∧ OeF C x w W2 from ⟨by rw [h.1, hx.owner], hb.on h.2⟩))
   have hne : (x.off.toList == x.owner.toList) = false := by rw [ba_beq]; exact decide_eq_false hx.ne
   have hoff := hx.off
   have hoe : x.owner.toList.isEmpty = false := by
    rw [ByteArray.toList_eq]
    exact not_empty (fun h => by have h9 := (name_size hx.owner).1; rw [h] at h9; exact absurd h9 (by decide))
   clear hx
   obtain ⟨xc, xo, xf⟩ := x
   simp only at d0 d1 d2 H1 H2 hne hoff HUj HF0 hoe
   have t1 : True := trivial
   have t2 : True := trivial
   rcases hoff with hoff | hoff
   ·subst hoff
    go_upto_region 10 with (go_at_call 151; go_loud (first | (have _t := t1; refine (H1.out _ _ (by exact HF0.out)).mono ?_; rintro e w1 ⟨rfl, hF1⟩; obtain ⟨_, _, _, e0, e1, e2⟩ := id hF1; simp only at e0 e1 e2; clear t1) | (have _t := t2; refine (H2.out _ _ (by exact hF1)).mono ?_; rintro e w2 ⟨rfl, hF2⟩; obtain ⟨_, _, _, e0, e1, e2⟩ := id hF2; simp only at e0 e1 e2; clear t2)))
    have HF := Lib.hid hF2
    clear d0 d1 d2
    by_cases hj0 : 0 < j
    ·have a3 : decide ((0 : Int) < (j : Int)) = true := decide_eq_true (by omega)
     have a3n : decide (0 < j) = true := decide_eq_true hj0
     have kp := cell_regrown (HPS.out hj0 _ HF.out.2.2.1)
     have k0 := cell_regrown e0
     have hls := HUj.out hj0
     have q1 : Op.bytesLess xc.toList p.toList = false := lsS_asymm hls
     have q2 : (xc.toList == p.toList) = false := by rw [ba_beq]; exact decide_eq_false (fun h => by rw [h, lsS_irr] at hls; cases hls)
     have hwj : IntKind.i64.wrap ((j : Int) - 1) = ((j - 1 : Nat) : Int) := by rw [IntWalk.i64_in _ (by omega)]; omega
     have j0 : (0 : Int) ≤ ((j - 1 : Nat) : Int) := by omega
     have j1 : ((j - 1 : Nat) : Int) < (n : Int) := by omega
     generalize j - 1 = jp at *
     clear hls
     refine wp_region_quiet_below (by kernel_rfl) (by kernel_rfl) ?_
     repeat (go_big_quiet_step (fail))
     refine wpQuiet_nil ?_
     intro _ hw'
     obtain ⟨⟨dq, osq⟩, hw''⟩ := hw'
     subst hw''
     have HBn := Lib.hid ((HF.out.on (below_regrown _ dq osq)).2.2.1)
     go_wp2_with fail
     go_roundw
     case rel => exact ⟨j + 1, by omega, by go_num, HBn⟩
     case measure => simp [intOf]; omega
    ·have a3 : decide ((0 : Int) < (j : Int)) = false := decide_eq_false (by omega)
     have a3n : decide (0 < j) = false := decide_eq_false hj0
     have k0 := cell_regrown e0
     refine wp_region_quiet_below (by kernel_rfl) (by kernel_rfl) ?_
     repeat (go_big_quiet_step (fail))
     refine wpQuiet_nil ?_
     intro _ hw'
     obtain ⟨⟨dq, osq⟩, hw''⟩ := hw'
     subst hw''
     have HBn := Lib.hid ((HF.out.on (below_regrown _ dq osq)).2.2.1)
     go_wp2_with fail
     go_roundw
     case rel => exact ⟨j + 1, by omega, by go_num, HBn⟩
     case measure => simp [intOf]; omega
   ·have hne0 : xf.toList.isEmpty = false := by rw [ByteArray.toList_eq]; exact not_empty (fun h => by rw [h] at hoff; exact absurd hoff (by decide))
    have H3 := Lib.hid (fun (W : World) (C : Nat) (hb : OeF C ⟨xc, xo, xf⟩ w W) => (OName_any xf W (by have := (name_size hoff).2; unfold maxLen; omega)).mono fun e W2 h => (show e = .returned (.bool true) ∧ OeF C ⟨xc, xo, xf⟩ w W2 from ⟨by rw [h.1, hoff], hb.on h.2⟩))
    clear hoff
    go_upto_region 10 with (go_at_call 151; go_loud (first | (have _t := t1; refine (H1.out _ _ (by exact HF0.out)).mono ?_; rintro e w1 ⟨rfl, hF1⟩; obtain ⟨_, _, _, e0, e1, e2⟩ := id hF1; simp only at e0 e1 e2; clear t1) | (have _t := t2; refine (H2.out _ _ (by exact hF1)).mono ?_; rintro e w2 ⟨rfl, hF2⟩; obtain ⟨_, _, _, e0, e1, e2⟩ := id hF2; simp only at e0 e1 e2; clear t2) | (refine (H3.out _ _ (by exact hF2)).mono ?_; rintro e w3 ⟨rfl, hF3⟩; obtain ⟨_, _, _, e0, e1, e2⟩ := id hF3; simp only at e0 e1 e2)))
    have HF := Lib.hid hF3
    clear d0 d1 d2
    by_cases hj0 : 0 < j
    ·have a3 : decide ((0 : Int) < (j : Int)) = true := decide_eq_true (by omega)
     have a3n : decide (0 < j) = true := decide_eq_true hj0
     have kp := cell_regrown (HPS.out hj0 _ HF.out.2.2.1)
     have k0 := cell_regrown e0
     have hls := HUj.out hj0
     have q1 : Op.bytesLess xc.toList p.toList = false := lsS_asymm hls
     have q2 : (xc.toList == p.toList) = false := by rw [ba_beq]; exact decide_eq_false (fun h => by rw [h, lsS_irr] at hls; cases hls)
     have hwj : IntKind.i64.wrap ((j : Int) - 1) = ((j - 1 : Nat) : Int) := by rw [IntWalk.i64_in _ (by omega)]; omega
     have j0 : (0 : Int) ≤ ((j - 1 : Nat) : Int) := by omega
     have j1 : ((j - 1 : Nat) : Int) < (n : Int) := by omega
     generalize j - 1 = jp at *
     clear hls
     refine wp_region_quiet_below (by kernel_rfl) (by kernel_rfl) ?_
     repeat (go_big_quiet_step (fail))
     refine wpQuiet_nil ?_
     intro _ hw'
     obtain ⟨⟨dq, osq⟩, hw''⟩ := hw'
     subst hw''
     have HBn := Lib.hid ((HF.out.on (below_regrown _ dq osq)).2.2.1)
     go_wp2_with fail
     go_roundw
     case rel => exact ⟨j + 1, by omega, by go_num, HBn⟩
     case measure => simp [intOf]; omega
    ·have a3 : decide ((0 : Int) < (j : Int)) = false := decide_eq_false (by omega)
     have a3n : decide (0 < j) = false := decide_eq_false hj0
     have k0 := cell_regrown e0
     refine wp_region_quiet_below (by kernel_rfl) (by kernel_rfl) ?_
     repeat (go_big_quiet_step (fail))
     refine wpQuiet_nil ?_
     intro _ hw'
     obtain ⟨⟨dq, osq⟩, hw''⟩ := hw'
     subst hw''
     have HBn := Lib.hid ((HF.out.on (below_regrown _ dq osq)).2.2.1)
     go_wp2_with fail
     go_roundw
     case rel => exact ⟨j + 1, by omega, by go_num, HBn⟩
     case measure => simp [intOf]; omega
  ·obtain rfl : n = j := by omega
   go_wp2_with fail
   go_ret
   exact ⟨rfl, HB.out⟩
end
section
open Go.RowKit
def lowO : List Ow → ByteArray → Nat
 | [], _ => 0
 | x :: r, s => if lsS x.call s = true then lowO r s + 1 else 0
theorem lowO_le : ∀ (l : List Ow) (s : ByteArray), lowO l s ≤ l.length
 | [], _ => Nat.le_refl _
 | x :: r, s => by
  unfold lowO
  split
  ·have := lowO_le r s; simp; omega
  ·exact Nat.zero_le _
theorem lowO_eq : ∀ {l : List Ow} {s : ByteArray} {j : Nat}, j < l.length → (∀ i, i < j → lsS (l[i]!).call s = true) → lsS (l[j]!).call s = false → lowO l s = j
 | [], s, j, h, _, _ => by simp at h
 | x :: r, s, j, h, h1, h2 => by
  unfold lowO
  cases j with
  | zero => rw [if_neg (by intro he; simp at h2; rw [he] at h2; cases h2)]
  | succ j =>
   have h0 : lsS x.call s = true := by have := h1 0 (by omega); simpa using this
   rw [if_pos h0, lowO_eq (l := r) (by simp at h; omega) (fun i hi => by have := h1 (i + 1) (by omega); simpa using this) (by simpa using h2)]
theorem lowO_all : ∀ {l : List Ow} {s : ByteArray}, (∀ i, i < l.length → lsS (l[i]!).call s = true) → lowO l s = l.length
 | [], s, _ => rfl
 | x :: r, s, h => by
  unfold lowO
  have h0 : lsS x.call s = true := by have := h 0 (by simp); simpa using this
  rw [if_pos h0, lowO_all (l := r) (fun i hi => by have := h (i + 1) (by simp; omega); simpa using this)]
  rfl
def isO (l : List Ow) (s : ByteArray) : Bool := decide (lowO l s < l.length) && decide ((l[lowO l s]!).call = s)
set_option maxRecDepth 100000 in
set_option maxHeartbeats 2000000 in
theorem cls114 (x : Ow) (s : ByteArray) (B : Nat) (w : World) (hB : B < w.heap.size) (hg : w.heap[B]? = some (.cells #[.string s] 9 (0, 0))) :
  Calls Tryz.prog 188 #[.agg #[.string x.call, .string x.owner, .string x.off], .pointer (some ⟨B, 0, none⟩)] w fun e w' => e = .returned (.bool (!lsS x.call s)) ∧ Below w.heap.size w w' := by
 have c0 := cell_of_row w B 0 _ 9 (0, 0) hg
 have hne : B ≠ w.heap.size := by omega
 obtain ⟨c, f, t⟩ := x
 dsimp only
 clear hg
 by_cases h1 : lsS c s = true
 ·have e1 : Op.bytesLess c.toList s.toList = true := h1
  have e2 : Op.bytesLess s.toList c.toList = false := lsS_asymm h1
  have e3 : (c.toList == s.toList) = false := by rw [ba_beq]; exact decide_eq_false (fun h => by rw [h, lsS_irr] at h1; cases h1)
  have e4 : (s.toList == c.toList) = false := by rw [ba_beq]; exact decide_eq_false (fun h => by rw [h, lsS_irr] at h1; cases h1)
  rw [h1]
  clear h1
  go_enter Tryz.func188, Tryz.ntmps188
  go_wp2
  go_ret
  exact ⟨rfl, (Below.refl _ w).alloc (Nat.le_refl _) _⟩
 ·have h1' : lsS c s = false := by simpa using h1
  have e1 : Op.bytesLess c.toList s.toList = false := h1'
  rw [h1']
  clear h1
  by_cases h2 : c = s
  ·subst h2
   clear h1'
   go_enter Tryz.func188, Tryz.ntmps188
   go_wp2
   go_ret
   exact ⟨rfl, (Below.refl _ w).alloc (Nat.le_refl _) _⟩
  ·have e2 : Op.bytesLess s.toList c.toList = true := by
    cases h3 : Op.bytesLess s.toList c.toList with
    | true => rfl
    | false => exact absurd (lsS_anti h1' h3) h2
   have e3 : (c.toList == s.toList) = false := by rw [ba_beq]; exact decide_eq_false h2
   have e4 : (s.toList == c.toList) = false := by rw [ba_beq]; exact decide_eq_false (fun h => h2 h.symm)
   clear h1' h2
   go_enter Tryz.func188, Tryz.ntmps188
   go_wp2
   go_ret
   exact ⟨rfl, (Below.refl _ w).alloc (Nat.le_refl _) _⟩
set_option maxRecDepth 100000 in
set_option maxHeartbeats 4000000 in
theorem IndexO_any (A : Option Addr) (l : List Ow) (n c : Nat) (s : ByteArray) (B : Nat) (w : World) (hA : OwA A n l w) (hn : n ≤ 1000) (hB : B < w.heap.size) (hg : w.heap[B]? = some (.cells #[.string s] 9 (0, 0))) :
  Calls Tryz.prog 118 #[.slice A n c, .func (.func 188) #[] #[.pointer (some ⟨B, 0, none⟩)]] w fun e w' => e = .returned (.int .i64 (if lowO l s < n then (lowO l s : Int) else -1)) ∧ Below w.heap.size w w' := by
 obtain ⟨hl, hS⟩ := hA
 have HA := Lib.hid hS
 have HG := Lib.hid hg
 have HL := Lib.hid hl
 obtain ⟨r, hr⟩ : ∃ r : Int, (if lowO l s < n then (lowO l s : Int) else -1) = r := ⟨_, rfl⟩
 rw [hr]
 have HR := Lib.hid hr
 clear hS hg hl hr
 go_enter Tryz.func118, Tryz.ntmps118
 go_wp2
 go_loopw [8] (fun k wr => ∃ j : Nat, j ≤ n ∧ k = .int .i64 j ∧ Hid (∀ i, i < j → lsS (l[i]!).call s = true) ∧ Hid (Below w.heap.size w wr)) (fun k _ => n - (intOf k).toNat)
 case atStart => exact ⟨0, by omega, rfl, Lib.hid (fun i hi => absurd hi (by omega)), Lib.hid (Below.refl _ _)⟩
 case round =>
  obtain ⟨j, hj, rfl, HN, HB⟩ := hrel
  have hzr := HB.out.size
  by_cases hlt : j < n
  ·obtain ⟨b, off, rfl, hb, hr⟩ := HA.out (by omega)
   have hcs : ∀ q v, (owV l[j]!)[q]? = some v → wr.cell? ⟨b, off + j * 3 + q, none⟩ = some v := fun q v hv => (HB.out.cell (p := ⟨b, off + j * 3 + q, none⟩) hb).trans (hr j hlt q v hv)
   obtain ⟨x, hx⟩ : ∃ x, l[j]! = x := ⟨_, rfl⟩
   have HXe := Lib.hid hx
   rw [hx] at hcs
   have d0 : wr.cell? ⟨b, off + j * 3, none⟩ = some (.string x.call) := hcs 0 _ rfl
   have d1 : wr.cell? ⟨b, off + j * 3 + 1, none⟩ = some (.string x.owner) := hcs 1 _ rfl
   have d2 : wr.cell? ⟨b, off + j * 3 + 2, none⟩ = some (.string x.off) := hcs 2 _ rfl
   have HC := Lib.hid (cls114 x s B wr (by omega) ((HB.out.block B hB).trans HG.out))
   have l1 : (j : Int) < (n : Int) := by omega
   have l0 : (0 : Int) ≤ (j : Int) := by omega
   have hwj : IntKind.i64.wrap ((j : Int) + 1) = (j : Int) + 1 := IntWalk.i64_in _ (by omega)
   clear hcs hx hr
   by_cases he : lsS x.call s = true
   ·rw [he] at HC
    have HE := Lib.hid he
    clear he
    go_wp2_with (go_at_call 188; go_loud (refine HC.out.mono ?_; rintro e w2 ⟨rfl, hb2⟩))
    go_roundw
    case rel => exact ⟨j + 1, by omega, by go_num, hid_step (P := fun i => lsS (l[i]!).call s = true) HN (by rw [HXe.out]; exact HE.out), Lib.hid (HB.out.trans (hb2.mono hzr))⟩
    case measure => simp [intOf]; omega
   ·have he' : lsS x.call s = false := by simpa using he
    rw [he'] at HC
    have HE := Lib.hid he'
    clear he he'
    go_wp2_with (go_at_call 188; go_loud (refine HC.out.mono ?_; rintro e w2 ⟨rfl, hb2⟩))
    go_ret
    refine ⟨?_, HB.out.trans (hb2.mono hzr)⟩
    have e : lowO l s = j := lowO_eq (by rw [HL.out]; exact hlt) HN.out (by rw [HXe.out]; exact HE.out)
    have e2 := HR.out
    rw [e, if_pos hlt] at e2
    rw [← e2]
    rfl
  ·obtain rfl : n = j := by omega
   go_wp2
   go_ret
   refine ⟨?_, HB.out⟩
   have e : lowO l s = l.length := lowO_all (by rw [HL.out]; exact HN.out)
   have e2 := HR.out
   rw [e, HL.out, if_neg (Nat.lt_irrefl _)] at e2
   rw [← e2]
   rfl
set_option maxRecDepth 100000 in
set_option maxHeartbeats 4000000 in
theorem Place_any (A : Option Addr) (l : List Ow) (n c : Nat) (s : ByteArray) (w : World) (hA : OwA A n l w) (hn : n ≤ 1000) :
  Calls Tryz.prog 150 #[.slice A n c, .string s] w fun e w' => e = .returned (.tuple #[.int .i64 (lowO l s : Nat), .bool (isO l s)]) ∧ Below w.heap.size w w' := by
 obtain ⟨W0, hW0⟩ : ∃ W0, w.alloc (.cells #[.string s] 9) = W0 := ⟨_, rfl⟩
 have hb0 : Below w.heap.size w W0 := by rw [← hW0]; exact (Below.refl _ w).alloc (Nat.le_refl _) _
 have hz0 : w.heap.size < W0.heap.size := by rw [← hW0]; simp
 have hg0 : W0.heap[w.heap.size]? = some (.cells #[.string s] 9 (0, 0)) := by rw [← hW0]; exact heap_alloc_new w _
 have HI := Lib.hid (IndexO_any A l n c s w.heap.size W0 (hA.below hb0) hn hz0 hg0)
 have HG := Lib.hid hg0
 have HB := Lib.hid hb0
 obtain ⟨hl, hS⟩ := hA
 have HS := Lib.hid hS
 have hle := lowO_le l s
 rw [hl] at hle
 have HIs : Hid (isO l s = (decide (lowO l s < n) && decide ((l[lowO l s]!).call = s))) := Lib.hid (by unfold isO; rw [hl])
 generalize isO l s = is at *
 generalize lowO l s = p at *
 clear hg0 hb0 hS hl
 by_cases hp : p < n
 ·rw [if_pos hp] at HI
  obtain ⟨b, off, rfl, hb, hr⟩ := HS.out (by omega)
  have HC : Hid (w.cell? ⟨b, off + p * 3, none⟩ = some (.string (l[p]!).call)) := Lib.hid (hr p hp 0 _ rfl)
  have HT : Hid (is = ((l[p]!).call.toList == s.toList)) := Lib.hid (by rw [HIs.out, decide_eq_true hp, Bool.true_and, ba_beq])
  generalize (l[p]!).call = x at *
  have l1 : (p : Int) < (n : Int) := by omega
  have l0 : (0 : Int) ≤ (p : Int) := by omega
  have a1 : decide ((p : Int) < 0) = false := decide_eq_false (by omega)
  have a2 : decide ((p : Int) < (n : Int)) = true := decide_eq_true l1
  have a3 : decide (p < n) = true := decide_eq_true hp
  clear hr
  go_enter Tryz.func150, Tryz.ntmps150
  go_upto_region 4 with (go_at_call 118; go_loud (refine HI.out.mono ?_; rintro e w2 ⟨rfl, hb2⟩))
  have e0 : w2.cell? ⟨b, off + p * 3, none⟩ = some (.string x) := (hb2.cell (p := ⟨b, off + p * 3, none⟩) (by show b < W0.heap.size; omega)).trans ((HB.out.cell (p := ⟨b, off + p * 3, none⟩) hb).trans HC.out)
  have e1 : w2.cell? ⟨w.heap.size, 0, none⟩ = some (.string s) := cell_of_row w2 _ 0 _ 9 (0, 0) ((hb2.block w.heap.size hz0).trans HG.out)
  refine wp_region_quiet_below (by kernel_rfl) (by kernel_rfl) ?_
  have k0 := cell_regrown e0
  have k1 := cell_regrown e1
  repeat (go_big_quiet_step (fail))
  refine wpQuiet_nil ?_
  intro _ hw'
  obtain ⟨⟨dq, osq⟩, hw''⟩ := hw'
  subst hw''
  have hbf := bstep (bstep HB.out hb2) (below_regrown w2 dq osq)
  go_wp2_with fail
  go_ret2
  exact ⟨by rw [HT.out]; rfl, hbf⟩
 ·rw [if_neg hp] at HI
  obtain rfl : p = n := by omega
  have HT : Hid (is = false) := Lib.hid (by rw [HIs.out, decide_eq_false (Nat.lt_irrefl _)]; rfl)
  have a3 : decide ((p : Int) < (p : Int)) = false := decide_eq_false (by omega)
  have a4 : decide (p < p) = false := decide_eq_false (by omega)
  go_enter Tryz.func150, Tryz.ntmps150
  go_upto_region 4 with (go_at_call 118; go_loud (refine HI.out.mono ?_; rintro e w2 ⟨rfl, hb2⟩))
  refine wp_region_quiet_below (by kernel_rfl) (by kernel_rfl) ?_
  repeat (go_big_quiet_step (fail))
  refine wpQuiet_nil ?_
  intro _ hw'
  obtain ⟨⟨dq, osq⟩, hw''⟩ := hw'
  subst hw''
  have hbf := bstep (bstep HB.out hb2) (below_regrown w2 dq osq)
  go_wp2_with fail
  go_ret2
  exact ⟨by rw [HT.out]; rfl, hbf⟩
end
section
open Go.RowKit
theorem CloneOw_info : (Tryz.prog.info? 136).map (fun i => (i.zero, i.size, i.bytes)) = some (some (.agg #[.string ByteArray.empty, .string ByteArray.empty, .string ByteArray.empty]), 3, 48) := by kernel_rfl
set_option maxHeartbeats 1000000 in
theorem CloneOw_any (A : Option Addr) (n c : Nat) (row : Nat → List Value) (w : World) (hA : Sl w w.heap.size 3 A n row) (hl : ∀ i, i < n → (row i).length = 3) (h1 : ∀ i, i < n → ∀ u ∈ row i, u.oneCell' = true)
  (hnil : A = none → n = 0) (hn : n ≤ maxLen) (hby : n * 48 ≤ 140737488355328) :
  Calls Tryz.prog 117 #[.slice A n c] w fun e w' => ∃ v, e = .returned v ∧ w'.ownsRow w.heap.size 136 3 v n (flatR row n) ∧ Below w.heap.size w w' := by
 cases A with
 | none =>
  obtain rfl := hnil rfl
  have hk := fun (W : World) => Lib.run_eql_slice_nil (P := Tryz.prog) W 100 136 none 0 c 0 0 Tryz.underlying100
  go_enter Tryz.func117, Tryz.ntmps117
  go_wp2
  go_ret
  exact ⟨_, rfl, World.ownsRow_nil _ _ _ _, Below.refl _ _⟩
 | some ad =>
  have hk := fun (W : World) => Lib.run_eql_slice_nil (P := Tryz.prog) W 100 136 (some ad) n c 0 0 Tryz.underlying100
  obtain ⟨i0, J0, J1, J2, J3⟩ := info_parts CloneOw_info
  have hbn : Below w.heap.size w (w.alloc (.cells #[] 136)) := (Below.refl _ _).alloc (Nat.le_refl _) _
  have hnews := Sl_news (by decide) (hA.below hbn) rfl hl
  have hlen := flatR_len n hl
  have hone : ∀ u ∈ flatR row n, u.oneCell' = true := fun u hu => by
   obtain ⟨i, hi, hu⟩ := flatR_mem hu
   exact h1 i hi u hu
  have HN := Lib.hid hnews
  have HL := Lib.hid hlen
  have HO := Lib.hid hone
  clear hnews hlen hone h1 hl
  go_enter Tryz.func117, Tryz.ntmps117
  go_wp2_with (at_builtin; refine wpList_append_own _ rfl (.tmp 5) (.tmp 6) 100 rfl w.heap.size 136 i0 _ 3 48 Tryz.underlying100 J0 J1 J2 J3 rfl (by decide) (.slice (some ⟨w.heap.size, 0, none⟩) 0 0) 0 [] rfl (World.ownsRow_made w #[] 0 (Nat.le_refl _) (by decide) rfl) ad n c (flatR row n) rfl HL.out HN.out HO.out (by omega) (by omega) (by simp) ?_; intro v' w' hown hg hni)
  go_ret
  refine ⟨_, rfl, ?_, hbn.grown hg hbn.size (fun k hk => by simp [Value.ownBlock] at hk; omega)⟩
  rw [Nat.zero_add, List.nil_append] at hown
  exact hown
end
end Go.Proofs.YtaebebpldkciiaaGreatDoor
