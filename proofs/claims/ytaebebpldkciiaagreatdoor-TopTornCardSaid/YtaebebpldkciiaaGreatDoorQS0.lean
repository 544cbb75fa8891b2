/- Binary floating point, quick to compute: the words of doubles by whole numbers alone. -/
import Ieee.Arith
import Derived.Test.YtaebebpldkciiaaGreatDoorQG02
import Derived.Deep.Cut
namespace Go.Proofs.YtaebebpldkciiaaGreatDoor
open Ieee
abbrev D : Format := Ieee.double
theorem log2_halve {m k : Nat} (h : 2 ^ k ≤ m) : m.log2 = k + (m / 2 ^ k).log2 := by
 have hk : 0 < 2 ^ k := Nat.two_pow_pos k
 have hm : m ≠ 0 := by omega
 have hq : m / 2 ^ k ≠ 0 := Nat.pos_iff_ne_zero.1 (Nat.div_pos h hk)
 rw [Nat.log2_eq_iff hm]
 obtain ⟨h1, h2⟩ := (Nat.log2_eq_iff hq (k := (m / 2 ^ k).log2)).1 rfl
 refine ⟨?_, ?_⟩
 ·rw [Nat.add_comm, Nat.pow_add]
  exact (Nat.le_div_iff_mul_le hk).1 h1
 ·have := (Nat.div_lt_iff_lt_mul hk).1 h2
  rw [show k + (m / 2 ^ k).log2 + 1 = (m / 2 ^ k).log2 + 1 + k by omega, Nat.pow_add]
  exact this
def lgs (k m : Nat) (f : Nat → Nat) : Nat := bif Nat.ble (2 ^ k) m then k + f (m / 2 ^ k) else f m
theorem lgs_eq (k m : Nat) {f : Nat → Nat} (hf : ∀ n, f n = n.log2) : lgs k m f = m.log2 := by
 unfold lgs
 cases h : Nat.ble (2 ^ k) m with
 | true => rw [cond_true, hf, ← log2_halve (Nat.le_of_ble_eq_true h)]
 | false => rw [cond_false, hf]
def lg0 (m : Nat) : Nat := bif Nat.beq m 1 then 0 else m.log2
theorem lg0_eq (m : Nat) : lg0 m = m.log2 := by
 unfold lg0
 cases h : Nat.beq m 1 with
 | true => rw [Nat.eq_of_beq_eq_true h]; rfl
 | false => rfl
def lg (m : Nat) : Nat := lgs 64 m fun m => lgs 32 m fun m => lgs 16 m fun m => lgs 8 m fun m => lgs 4 m fun m => lgs 2 m fun m => lgs 1 m lg0
theorem lg_eq (m : Nat) : lg m = m.log2 :=
 lgs_eq _ _ fun _ => lgs_eq _ _ fun _ => lgs_eq _ _ fun _ => lgs_eq _ _ fun _ => lgs_eq _ _ fun _ => lgs_eq _ _ fun _ => lgs_eq _ _ lg0_eq
def cutF (n drop : Nat) : Nat :=
 bif Nat.beq drop 0 then n else
 let gap := 2 ^ drop
 let low := n / gap
 let rest := 2 * (n % gap)
 bif Nat.ble gap rest then (bif Nat.beq gap rest then low + low % 2 else low + 1) else low
theorem cutF_eq (neg : Bool) (n drop : Nat) : Toward.even.cut neg n drop = cutF n drop := by
 have hlt : n < 2 ^ (n.log2 + 1) := Nat.lt_log2_self
 unfold Toward.cut cutF
 simp only [Nat.shiftLeft_eq, Nat.one_mul]
 cases h0 : Nat.beq drop 0 with
 | true =>
  rw [Nat.eq_of_beq_eq_true h0]
  simp [Nat.mod_one]
 | false =>
  rw [cond_false]
  by_cases hd : drop ≤ n.log2 + 2
  ·rw [Nat.min_eq_left hd]
   generalize 2 ^ drop = g
   cases h1 : Nat.ble g (2 * (n % g)) with
   | true =>
    have h1' := Nat.le_of_ble_eq_true h1
    rw [cond_true]
    cases h2 : Nat.beq g (2 * (n % g)) with
    | true =>
     have h2' := Nat.eq_of_beq_eq_true h2
     rw [cond_true]
     have e1 : decide (g < 2 * (n % g)) = false := decide_eq_false (by omega)
     have e2 : (g == 2 * (n % g)) = true := by rw [beq_iff_eq]; exact h2'
     rw [e1, e2]
     have : n / g % 2 = 0 ∨ n / g % 2 = 1 := by omega
     rcases this with e | e <;> simp [e]
    | false =>
     have h2' := Nat.ne_of_beq_eq_false h2
     rw [cond_false]
     have e1 : decide (g < 2 * (n % g)) = true := decide_eq_true (by omega)
     rw [e1]; rfl
   | false =>
    rw [cond_false]
    have h1' : ¬ g ≤ 2 * (n % g) := fun h => by rw [Nat.ble_eq_true_of_le h] at h1; cases h1
    have e1 : decide (g < 2 * (n % g)) = false := decide_eq_false (by omega)
    have e2 : (g == 2 * (n % g)) = false := by rw [beq_eq_false_iff_ne]; omega
    rw [e1, e2]; rfl
  ·rw [Nat.min_eq_right (by omega)]
   have p1 : 2 ^ (n.log2 + 2) = 2 * 2 ^ (n.log2 + 1) := by rw [Nat.pow_succ]; omega
   have p2 : 2 ^ (n.log2 + 2) ≤ 2 ^ drop := Nat.pow_le_pow_right (by decide) (by omega)
   have q1 : n < 2 ^ (n.log2 + 2) := by omega
   have q2 : n < 2 ^ drop := by omega
   rw [Nat.div_eq_of_lt q1, Nat.div_eq_of_lt q2, Nat.mod_eq_of_lt q1, Nat.mod_eq_of_lt q2]
   have e1 : decide (2 ^ (n.log2 + 2) < 2 * n) = false := decide_eq_false (by omega)
   have e2 : (2 ^ (n.log2 + 2) == 2 * n) = false := by rw [beq_eq_false_iff_ne]; omega
   rw [e1, e2]
   have e3 : Nat.ble (2 ^ drop) (2 * n) = false := by
    cases h : Nat.ble (2 ^ drop) (2 * n) with
    | true => have := Nat.le_of_ble_eq_true h; omega
    | false => rfl
   rw [e3]; rfl
def mxN (a b : Nat) : Nat := bif Nat.ble a b then b else a
theorem mxN_eq (a b : Nat) : mxN a b = max a b := by
 unfold mxN
 cases h : Nat.ble a b with
 | true => rw [cond_true]; exact (Nat.max_eq_right (Nat.le_of_ble_eq_true h)).symm
 | false => rw [cond_false, Nat.max_eq_left]; exact Nat.le_of_lt (Nat.lt_of_not_le fun h' => by rw [Nat.ble_eq_true_of_le h'] at h; cases h)
def nearW (neg : Bool) (mag e : Nat) : Nat :=
 bif Nat.beq mag 0 then (bif neg then 9223372036854775808 else 0) else
 let L := mxN (e + lg mag - 52) 1074
 let r := (L - 1074) * 4503599627370496 + cutF (mag * 2 ^ (e - L)) (L - e)
 (bif neg then 9223372036854775808 else 0) + (bif Nat.ble r 9218868437227405312 then r else 9218868437227405312)
theorem nearW_eq (neg : Bool) (mag e : Nat) : D.nearest neg mag ((e : Int) - 2148) = nearW neg mag e := by
 unfold Format.nearest nearW
 have hlp : D.leastPlace = -1074 := by decide
 have hfb : (D.fractionBits : Int) = 52 := rfl
 have hbi : D.binade = 4503599627370496 := by decide
 have hir : D.infRung = 9218868437227405312 := by decide
 have hsw : D.signWeight = 9223372036854775808 := by decide
 rw [hlp, hfb, hbi, hir, lg_eq, mxN_eq]
 unfold Format.word
 rw [hsw]
 cases h0 : Nat.beq mag 0 with
 | true => rw [if_pos (Nat.eq_of_beq_eq_true h0), cond_true]; cases neg <;> rfl
 | false =>
  rw [if_neg (Nat.ne_of_beq_eq_false h0), cond_false]
  generalize mag.log2 = k
  have hL : max ((e : Int) - 2148 + (k : Int) - 52) (-1074) = ((max (e + k - 52) 1074 : Nat) : Int) - 2148 := by omega
  simp only [hL]
  generalize max (e + k - 52) 1074 = L
  have e1 : ((e : Int) - 2148 - ((L : Int) - 2148)).toNat = e - L := by omega
  have e2 : ((L : Int) - 2148 - ((e : Int) - 2148)).toNat = L - e := by omega
  have e3 : ((L : Int) - 2148 - (-1074)).toNat = L - 1074 := by omega
  rw [e1, e2, e3, cutF_eq, Nat.shiftLeft_eq]
  generalize (L - 1074) * 4503599627370496 + cutF (mag * 2 ^ (e - L)) (L - e) = r
  have e4 : min r 9218868437227405312 = bif Nat.ble r 9218868437227405312 then r else 9218868437227405312 := by
   cases h : Nat.ble r 9218868437227405312 with
   | true => rw [cond_true]; exact Nat.min_eq_left (Nat.le_of_ble_eq_true h)
   | false => rw [cond_false, Nat.min_eq_right]; exact Nat.le_of_lt (Nat.lt_of_not_le fun h' => by rw [Nat.ble_eq_true_of_le h'] at h; cases h)
  rw [e4]
  cases neg
  ·simp
  ·simp
theorem nearW_zero (e : Nat) : nearW false 0 e = 0 := by
 unfold nearW
 rw [show Nat.beq 0 0 = true by decide, cond_true, cond_false]
def sF (w : Nat) : Bool := Nat.beq (w / 9223372036854775808 % 2) 1
def eF (w : Nat) : Nat := w % 9223372036854775808 / 4503599627370496
def mF (w : Nat) : Nat := 4503599627370496 + w % 4503599627370496
def nF (w : Nat) : Bool := bif Nat.ble 1 (eF w) then Nat.ble (eF w) 2046 else false
theorem readF {w : Nat} (h : nF w = true) : D.read w = .number (sF w) (mF w) (((eF w : Nat) : Int) - 1075) := by
 have hlp : D.leastPlace = -1074 := by decide
 have hbi : D.binade = 4503599627370496 := by decide
 have hir : D.infRung = 9218868437227405312 := by decide
 have hsw : D.signWeight = 9223372036854775808 := by decide
 unfold nF eF at h
 unfold Format.read sF mF eF
 rw [hlp, hbi, hir, hsw]
 have h1 : 1 ≤ w % 9223372036854775808 / 4503599627370496 ∧ w % 9223372036854775808 / 4503599627370496 ≤ 2046 := by
  cases h1 : Nat.ble 1 (w % 9223372036854775808 / 4503599627370496) with
  | true => rw [h1, cond_true] at h; exact ⟨Nat.le_of_ble_eq_true h1, Nat.le_of_ble_eq_true h⟩
  | false => rw [h1, cond_false] at h; cases h
 simp only
 rw [if_neg (by omega), if_pos (by omega)]
 congr 1
 ·cases h : Nat.beq (w / 9223372036854775808 % 2) 1 with
  | true => rw [Nat.eq_of_beq_eq_true h]; rfl
  | false => rw [beq_eq_false_iff_ne]; exact Nat.ne_of_beq_eq_false h
 ·omega
 ·omega
def mulF (x y : Nat) : Option Nat := bif nF x then (bif nF y then some (nearW (sF x ^^ sF y) (mF x * mF y) (eF x + eF y - 2)) else D.mul x y) else D.mul x y
theorem mulF_eq (x y : Nat) : D.mul x y = mulF x y := by
 unfold mulF
 cases hx : nF x with
 | false => rfl
 | true =>
  cases hy : nF y with
  | false => rfl
  | true =>
   rw [cond_true, cond_true]
   unfold Format.mul
   rw [readF hx, readF hy]
   have h1 : 1 ≤ eF x ∧ 1 ≤ eF y := by
    unfold nF at hx hy
    constructor
    ·cases h : Nat.ble 1 (eF x) with
     | true => exact Nat.le_of_ble_eq_true h
     | false => rw [h] at hx; cases hx
    ·cases h : Nat.ble 1 (eF y) with
     | true => exact Nat.le_of_ble_eq_true h
     | false => rw [h] at hy; cases hy
   simp only [Datum.product, Option.map_some, Format.write]
   rw [show ((eF x : Int) - 1075 + ((eF y : Int) - 1075)) = ((eF x + eF y - 2 : Nat) : Int) - 2148 by omega, nearW_eq]
def addM (s : Bool) (a : Nat) (t : Bool) (b e : Nat) : Nat :=
 bif (s == t) then nearW s (a + b) e else (bif Nat.ble a b then (bif Nat.beq a b then 0 else nearW t (b - a) e) else nearW s (a - b) e)
theorem addM_aux (N : Bool → Nat → Nat) (h0 : N false 0 = 0) (s : Bool) (a : Nat) (t : Bool) (b : Nat) (ha : 0 < a) (hb : 0 < b) :
  N (if signed s a 0 + signed t b 0 = 0 then s && t else decide (signed s a 0 + signed t b 0 < 0)) (signed s a 0 + signed t b 0).natAbs =
  bif (s == t) then N s (a + b) else (bif Nat.ble a b then (bif Nat.beq a b then 0 else N t (b - a)) else N s (a - b)) := by
 unfold signed
 simp only [Nat.shiftLeft_zero]
 cases s <;> cases t
 ·simp only [Bool.false_eq_true, if_false, beq_self_eq_true, cond_true]
  rw [if_neg (by omega), decide_eq_false (by omega), show ((a : Int) + (b : Int)).natAbs = a + b by omega]
 ·have e0 : (false == true) = false := rfl
  simp only [Bool.false_eq_true, if_false, if_true, e0, cond_false]
  cases h1 : Nat.ble a b with
  | true =>
   have h1' := Nat.le_of_ble_eq_true h1
   rw [cond_true]
   cases h2 : Nat.beq a b with
   | true =>
    have h2' := Nat.eq_of_beq_eq_true h2
    rw [cond_true, if_pos (by omega), show ((a : Int) + -(b : Int)).natAbs = 0 by omega]
    first | (simp only [Bool.and_false]; exact h0) | (simp only [Bool.false_and]; exact h0)
   | false =>
    have h2' := Nat.ne_of_beq_eq_false h2
    rw [cond_false, if_neg (by omega), decide_eq_true (by omega), show ((a : Int) + -(b : Int)).natAbs = b - a by omega]
  | false =>
   have h1' : ¬ a ≤ b := fun h => by rw [Nat.ble_eq_true_of_le h] at h1; cases h1
   rw [cond_false, if_neg (by omega), decide_eq_false (by omega), show ((a : Int) + -(b : Int)).natAbs = a - b by omega]
 ·have e0 : (true == false) = false := rfl
  simp only [Bool.false_eq_true, if_false, if_true, e0, cond_false]
  cases h1 : Nat.ble a b with
  | true =>
   have h1' := Nat.le_of_ble_eq_true h1
   rw [cond_true]
   cases h2 : Nat.beq a b with
   | true =>
    have h2' := Nat.eq_of_beq_eq_true h2
    rw [cond_true, if_pos (by omega), show (-(a : Int) + (b : Int)).natAbs = 0 by omega]
    first | (simp only [Bool.and_false]; exact h0) | (simp only [Bool.false_and]; exact h0)
   | false =>
    have h2' := Nat.ne_of_beq_eq_false h2
    rw [cond_false, if_neg (by omega), decide_eq_false (by omega), show (-(a : Int) + (b : Int)).natAbs = b - a by omega]
  | false =>
   have h1' : ¬ a ≤ b := fun h => by rw [Nat.ble_eq_true_of_le h] at h1; cases h1
   rw [cond_false, if_neg (by omega), decide_eq_true (by omega), show (-(a : Int) + (b : Int)).natAbs = a - b by omega]
 ·simp only [if_true, beq_self_eq_true, cond_true]
  rw [if_neg (by omega), decide_eq_true (by omega), show (-(a : Int) + -(b : Int)).natAbs = a + b by omega]
def addF (x y : Nat) (flip : Bool) : Option Nat :=
 bif nF x then (bif nF y then
  (let k := bif Nat.ble (eF x) (eF y) then eF x else eF y
   some (addM (sF x) (mF x * 2 ^ (eF x - k)) (sF y ^^ flip) (mF y * 2 ^ (eF y - k)) (1073 + k)))
  else (bif flip then D.sub x y else D.add x y)) else (bif flip then D.sub x y else D.add x y)
theorem addM_eq (s : Bool) (a : Nat) (t : Bool) (b e : Nat) (ha : 0 < a) (hb : 0 < b) :
  D.write (.number (if signed s a 0 + signed t b 0 = 0 then s && t else decide (signed s a 0 + signed t b 0 < 0)) (signed s a 0 + signed t b 0).natAbs ((e : Int) - 2148)) = addM s a t b e := by
 simp only [Format.write]
 rw [nearW_eq]
 exact addM_aux (fun s m => nearW s m e) (nearW_zero e) s a t b ha hb
theorem signed_up (s : Bool) (m k : Nat) : signed s m k = signed s (m * 2 ^ k) 0 := by
 unfold signed; simp [Nat.shiftLeft_eq]
theorem mF_pos (w k : Nat) : 0 < mF w * 2 ^ k := Nat.mul_pos (by unfold mF; omega) (Nat.two_pow_pos k)
theorem sumF {x : Nat} (y : Nat) (hx : nF x = true) (t : Bool) :
  ((D.read x).sum (.number t (mF y) (((eF y : Nat) : Int) - 1075))).map D.write = some (addM (sF x) (mF x * 2 ^ (eF x - (bif Nat.ble (eF x) (eF y) then eF x else eF y))) t (mF y * 2 ^ (eF y - (bif Nat.ble (eF x) (eF y) then eF x else eF y))) (1073 + (bif Nat.ble (eF x) (eF y) then eF x else eF y))) := by
 rw [readF hx]
 have hk : (bif Nat.ble (eF x) (eF y) then eF x else eF y) = min (eF x) (eF y) := by
  cases h : Nat.ble (eF x) (eF y) with
  | true => rw [cond_true]; exact (Nat.min_eq_left (Nat.le_of_ble_eq_true h)).symm
  | false => rw [cond_false, Nat.min_eq_right]; exact Nat.le_of_lt (Nat.lt_of_not_le fun h' => by rw [Nat.ble_eq_true_of_le h'] at h; cases h)
 rw [hk]
 simp only [Datum.sum, Option.map_some]
 have e1 : (((eF x : Nat) : Int) - 1075 - min (((eF x : Nat) : Int) - 1075) (((eF y : Nat) : Int) - 1075)).toNat = eF x - min (eF x) (eF y) := by omega
 have e2 : (((eF y : Nat) : Int) - 1075 - min (((eF x : Nat) : Int) - 1075) (((eF y : Nat) : Int) - 1075)).toNat = eF y - min (eF x) (eF y) := by omega
 have e3 : min (((eF x : Nat) : Int) - 1075) (((eF y : Nat) : Int) - 1075) = ((1073 + min (eF x) (eF y) : Nat) : Int) - 2148 := by omega
 rw [e1, e2, e3, signed_up, signed_up t, addM_eq _ _ _ _ _ (mF_pos _ _) (mF_pos _ _)]
theorem addF_eq (x y : Nat) : D.add x y = addF x y false := by
 unfold addF
 cases hx : nF x with
 | false => rfl
 | true =>
  cases hy : nF y with
  | false => rfl
  | true =>
   rw [cond_true, cond_true, Bool.xor_false]
   unfold Format.add
   rw [readF hy]
   exact sumF y hx _
theorem subF_eq (x y : Nat) : D.sub x y = addF x y true := by
 unfold addF
 cases hx : nF x with
 | false => rfl
 | true =>
  cases hy : nF y with
  | false => rfl
  | true =>
   rw [cond_true, cond_true, Bool.xor_true]
   unfold Format.sub
   rw [readF hy]
   exact sumF y hx _
def toF (w : Nat) : Option Int :=
 bif nF w then (let n := bif Nat.ble 1075 (eF w) then mF w * 2 ^ (eF w - 1075) else mF w / 2 ^ (1075 - eF w)
  some (bif sF w then -(n : Int) else (n : Int))) else (D.read w).toInt .zero
theorem toF_eq (w : Nat) : (D.read w).toInt .zero = toF w := by
 unfold toF
 cases hw : nF w with
 | false => rfl
 | true =>
  rw [cond_true, readF hw]
  unfold Datum.toInt Datum.integral Toward.cut
  simp only [Nat.shiftLeft_eq, Nat.one_mul]
  have hlt : ∀ n : Nat, n < 2 ^ (n.log2 + 1) := fun n => Nat.lt_log2_self
  have hdiv : ∀ n d : Nat, n / 2 ^ min d (n.log2 + 2) = n / 2 ^ d := fun n d => by
   by_cases h : d ≤ n.log2 + 2
   ·rw [Nat.min_eq_left h]
   ·rw [Nat.min_eq_right (by omega)]
    have h1 := hlt n
    have p1 : 2 ^ (n.log2 + 1) ≤ 2 ^ (n.log2 + 2) := Nat.pow_le_pow_right (by decide) (by omega)
    have p2 : 2 ^ (n.log2 + 2) ≤ 2 ^ d := Nat.pow_le_pow_right (by decide) (by omega)
    rw [Nat.div_eq_of_lt (by omega), Nat.div_eq_of_lt (by omega)]
  rw [hdiv]
  unfold signed
  have hb : ((((eF w : Nat) : Int) - 1075).toNat) = eF w - 1075 := by omega
  have hc : ((-(((eF w : Nat) : Int) - 1075)).toNat) = 1075 - eF w := by omega
  rw [hb, hc]
  cases h : Nat.ble 1075 (eF w) with
  | true =>
   have h' := Nat.le_of_ble_eq_true h
   rw [show 1075 - eF w = 0 by omega, cond_true]
   cases sF w <;> simp
  | false =>
   have h' : ¬ 1075 ≤ eF w := fun h' => by rw [Nat.ble_eq_true_of_le h'] at h; cases h
   rw [show eF w - 1075 = 0 by omega, cond_false]
   cases sF w <;> simp
end Go.Proofs.YtaebebpldkciiaaGreatDoor
namespace Go.Proofs.YtaebebpldkciiaaGreatDoor
open Go.RowKit
theorem ext221 (b : Nat) (w : World) : (callFunc 221 #[.float .f64 b]).run Tryz.prog w = .ok (.value (.int .u64 b)) w := by
 rw [run_callFunc_extern Tryz.func221 (by kernel_rfl) (by kernel_rfl) (by kernel_rfl) (e := Extern.MathFloatBits.float64bits) (by kernel_rfl)]
 rfl
theorem ext222 (n : Int) (w : World) : (callFunc 222 #[.int .u64 n]).run Tryz.prog w = .ok (.value (.float .f64 n.toNat)) w := by
 rw [run_callFunc_extern Tryz.func222 (by kernel_rfl) (by kernel_rfl) (by kernel_rfl) (e := Extern.MathFloatBits.float64frombits) (by kernel_rfl)]
 rfl
def rdI (b : Nat) : Int :=
 let e := bits .and .u64 ((b : Int) / 4503599627370496) 2047
 if e < 1023 then (if e = 1022 then bits .or .u64 (bits .and .u64 (b : Int) 9223372036854775808) 4607182418800017408 else bits .and .u64 (b : Int) 9223372036854775808)
 else if e < 1075 then bits .andNot .u64 (IntKind.u64.wrap ((b : Int) + 2251799813685248 / 2 ^ (e - 1023).toNat)) (4503599627370495 / 2 ^ (e - 1023).toNat) else (b : Int)
set_option maxRecDepth 100000 in
set_option maxHeartbeats 2000000 in
theorem Round_any (b : Nat) (w : World) : Calls Tryz.prog 199 #[.float .f64 b] w fun e w' => e = .returned (.float .f64 (rdI b).toNat) ∧ w' = w := by
 have X1 := ext221 b w
 unfold rdI
 by_cases h1 : bits .and .u64 ((b : Int) / 4503599627370496) 2047 < 1023
 ·rw [if_pos h1]
  by_cases h2 : bits .and .u64 ((b : Int) / 4503599627370496) 2047 = 1022
  ·rw [if_pos h2]
   have X2 := ext222 (bits .or .u64 (bits .and .u64 (b : Int) 9223372036854775808) 4607182418800017408) w
   have e1 : (bits .and .u64 ((b : Int) / 4503599627370496) 2047 == 1022) = true := by simp [h2]
   clear h2
   go_enter Tryz.func199, Tryz.ntmps199
   go_wp2
   go_ret
   exact ⟨rfl, rfl⟩
  ·rw [if_neg h2]
   have X2 := ext222 (bits .and .u64 (b : Int) 9223372036854775808) w
   have e1 : (bits .and .u64 ((b : Int) / 4503599627370496) 2047 == 1022) = false := by simp [h2]
   clear h2
   go_enter Tryz.func199, Tryz.ntmps199
   go_wp2
   go_ret
   exact ⟨rfl, rfl⟩
 rw [if_neg h1]
 by_cases h2 : bits .and .u64 ((b : Int) / 4503599627370496) 2047 < 1075
 ·rw [if_pos h2]
  have X2 := ext222 (bits .andNot .u64 (IntKind.u64.wrap ((b : Int) + 2251799813685248 / 2 ^ (bits .and .u64 ((b : Int) / 4503599627370496) 2047 - 1023).toNat)) (4503599627370495 / 2 ^ (bits .and .u64 ((b : Int) / 4503599627370496) 2047 - 1023).toNat)) w
  go_enter Tryz.func199, Tryz.ntmps199
  go_wp2
  go_ret
  exact ⟨rfl, rfl⟩
 ·rw [if_neg h2]
  have X2 := ext222 (b : Int) w
  go_enter Tryz.func199, Tryz.ntmps199
  go_wp2
  go_ret
  exact ⟨rfl, rfl⟩
end Go.Proofs.YtaebebpldkciiaaGreatDoor
