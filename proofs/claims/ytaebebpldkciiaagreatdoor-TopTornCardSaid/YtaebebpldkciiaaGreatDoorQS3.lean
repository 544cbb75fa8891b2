/- The sine of package angle: computed for all 4096 angles. -/
import Derived.Test.YtaebebpldkciiaaGreatDoorQS2
namespace Go.Proofs.YtaebebpldkciiaaGreatDoor
open Go.RowKit
theorem fb_mul (a b : Nat) : fb .mul a b = mulF a b := mulF_eq a b
theorem fb_add (a b : Nat) : fb .add a b = addF a b false := addF_eq a b
theorem fb_sub (a b : Nat) : fb .sub a b = addF a b true := subF_eq a b
def cosQF (zz : Nat) : Option Nat :=
 (mulF 4602678819172646912 zz).bind fun h =>
 (addF 4607182418800017408 h true).bind fun u =>
 (mulF zz zz).bind fun q =>
 (mulF 13666448263388469915 zz).bind fun a0 =>
 (addF a0 4477121864728985349 false).bind fun b1 =>
 (mulF b1 zz).bind fun a1 =>
 (addF a1 13732177093698800582 false).bind fun b2 =>
 (mulF b2 zz).bind fun a2 =>
 (addF a2 4537941361668146421 false).bind fun b3 =>
 (mulF b3 zz).bind fun a3 =>
 (addF a3 13787419979223748497 false).bind fun b4 =>
 (mulF b4 zz).bind fun a4 =>
 (addF a4 4586165620538955083 false).bind fun b5 =>
 (mulF q b5).bind fun v =>
 addF u v false
def sinQF (z zz : Nat) : Option Nat :=
 (mulF z zz).bind fun q =>
 (mulF 4460209587652500685 zz).bind fun a0 =>
 (addF a0 13716528389658582877 false).bind fun b1 =>
 (mulF b1 zz).bind fun a1 =>
 (addF a1 4523617212962785441 false).bind fun b2 =>
 (mulF b2 zz).bind fun a2 =>
 (addF a2 13774824197404483331 false).bind fun b3 =>
 (mulF b3 zz).bind fun a3 =>
 (addF a3 4575957461383575504 false).bind fun b4 =>
 (mulF b4 zz).bind fun a4 =>
 (addF a4 13818544856648471880 false).bind fun b5 =>
 (mulF q b5).bind fun v =>
 addF z v false
def sinTF (j : Int) (z zz : Nat) : Option Nat := if j = 1 ∨ j = 2 then cosQF zz else sinQF z zz
def sinZF (x : Nat) (j : Int) (y : Nat) : Option Nat :=
 (mulF y 4605249456957292544).bind fun a =>
 (addF x a true).bind fun b =>
 (mulF y 4495793288086814720).bind fun c =>
 (addF b c true).bind fun d =>
 (mulF y 4388835458085048688).bind fun e =>
 (addF d e true).bind fun z =>
 (mulF z z).bind fun zz =>
 if 3 < j then (sinTF (j - 4) z zz).map (sgnW true) else sinTF j z zz
def ofF (j : Int) : Nat := nearW (decide (j < 0)) j.natAbs 2148
theorem ofF_eq (j : Int) : floatOfInt .f64 j = ofF j := by
 unfold ofF floatOfInt FloatKind.nearest FloatKind.encode
 simp only [Ieee.Format.write]
 exact nearW_eq (decide (j < 0)) j.natAbs 2148
def sinJF (x : Nat) (j : Int) : Option Nat :=
 if bits .and .u64 j 1 = 1 then (addF (ofF j) 4607182418800017408 false).bind fun y => sinZF x (bits .and .u64 (j + 1) 7) y
 else sinZF x (bits .and .u64 j 7) (ofF j)
def toFV (b : Nat) (lo hi : Int) : Option Int :=
 match toF b with
 | some n => if lo ≤ n ∧ n ≤ hi then some n else none
 | none => none
theorem toFV_u (b : Nat) : floatToIntVal .f64 b .u64 = toFV b 0 18446744073709551615 := by
 unfold floatToIntVal toFV FloatKind.decode
 rw [show FloatKind.f64.format = D from rfl, toF_eq]
 rfl
theorem toFV_i (b : Nat) : floatToIntVal .f64 b .i64 = toFV b (-9223372036854775808) 9223372036854775807 := by
 unfold floatToIntVal toFV FloatKind.decode
 rw [show FloatKind.f64.format = D from rfl, toF_eq]
 rfl
def sinWF (x : Nat) : Option Nat :=
 if (ordW x 0 == some .eq) = true then some x
 else if (ordW x x != some .eq) = true ∨ (ordW (absW x) 9218868437227405311 == some .gt) = true ∨ (ordW x 0 == some .lt) = true ∨ (ordW x 4737786807993761792 == some .gt || ordW x 4737786807993761792 == some .eq) = true then none
 else (mulF x 4608412980311869571).bind fun m => (toFV m 0 18446744073709551615).bind fun j => if j < 100 then sinJF x j else none
theorem sinW_fast (x : Nat) : sinW x = sinWF x := by
 have h1 : ∀ zz, cosQ zz = cosQF zz := fun zz => by unfold cosQ cosQF; simp only [fb_mul, fb_add, fb_sub]
 have h2 : ∀ z zz, sinQ z zz = sinQF z zz := fun z zz => by unfold sinQ sinQF; simp only [fb_mul, fb_add]
 have h3 : ∀ j z zz, sinT j z zz = sinTF j z zz := fun j z zz => by unfold sinT sinTF; rw [h1, h2]
 have h4 : ∀ x j y, sinZ x j y = sinZF x j y := fun x j y => by unfold sinZ sinZF; simp only [fb_mul, fb_sub, h3]
 have h5 : ∀ x j, sinJ x j = sinJF x j := fun x j => by unfold sinJ sinJF; simp only [fb_add, ofF_eq, h4]
 unfold sinW sinWF
 simp only [fb_mul, toFV_u, h5]
def argW (h : Nat) : Option Nat := (mulF (ofF h) 4614256656552045848).bind fun a => fb .quo a 4656722014701092864
def sinO (h : Nat) : Option Int := (argW h).bind fun x => (sinWF x).bind fun s => (mulF 4670232813583204352 s).bind fun m => toFV (rdI m).toNat (-9223372036854775808) 9223372036854775807
def sinB (h : Nat) : Bool := match sinO h with
 | some n => decide (-16384 ≤ n) && decide (n ≤ 16384)
 | none => false
def sinAll (lo : Nat) : Nat → Bool
 | 0 => true
 | n + 1 => sinB (lo + n) && sinAll lo n
theorem sinAll_at {lo n : Nat} (h : sinAll lo n = true) {k : Nat} (h1 : lo ≤ k) (h2 : k < lo + n) : sinB k = true := by
 induction n with
 | zero => omega
 | succ n ih =>
  unfold sinAll at h
  rw [Bool.and_eq_true] at h
  by_cases e : k = lo + n
  ·rw [e]; exact h.1
  ·exact ih h.2 (by omega)
end Go.Proofs.YtaebebpldkciiaaGreatDoor
