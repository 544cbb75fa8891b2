/- A step of a centre, seen from a block on; kinds; tubes that do not move. -/
import Derived.Test.YtaebebpldkciiaaGreatDoorQG18
import Derived.Test.YtaebebpldkciiaaGreatDoorQG12
namespace Go.Proofs.YtaebebpldkciiaaGreatDoor
open Go.RowKit
def stT (x y a b : Int) : Tu := [⟨a, x, y, 0, 1, 0⟩, ⟨b, x, y, 0, 1, 0⟩]
def kindsS : Nat → ByteArray
 | 0 => ⟨#[102, 105, 108, 101]⟩
 | 1 => ⟨#[111, 102, 102, 101, 114]⟩
 | 2 => ⟨#[97, 99, 99, 101, 112, 116]⟩
 | 3 => ⟨#[99, 108, 101, 97, 114]⟩
 | 4 => ⟨#[104, 101, 97, 114]⟩
 | 5 => ⟨#[114, 101, 102, 117, 115, 101]⟩
 | _ => ⟨#[101, 110, 100]⟩
theorem kindsS_ok : KsOk kindsS := fun i hi => by
 rcases (show i = 0 ∨ i = 1 ∨ i = 2 ∨ i = 3 ∨ i = 4 ∨ i = 5 ∨ i = 6 by omega) with e | e | e | e | e | e | e <;> subst e <;> decide
def StepL (N g : Nat) (S : Su) (w : World) (d : Ce × Int) (e : Ending) (w' : World) : Prop :=
 e = .returned (.int .i64 d.2) ∧ Below N w w' ∧ ∃ F' : Nat → Prop, CeAt F' g S d.1 w' ∧ ∀ b, F' b → N ≤ b
theorem KsAt.below {ks : Nat → ByteArray} {w w' : World} {N : Nat} (h : KsAt ks w) (hb : Below N w w') (hN : 0 < N) : KsAt ks w' := fun i hi => (hb.cell (p := ⟨0, i, none⟩) hN).trans (h i hi)
theorem Step_low {F : Nat → Prop} {g : Nat} {S : Su} {c : Ce} {w : World} {N : Nat} (h : CeAt F g S c w) (hF : ∀ b, F b → N ≤ b) (h1 : 0 < N) (hN : N ≤ w.heap.size) (hok : CeOk c) (hS : SuOk S) (h20 : c.acc < 20) (x : Inp) (A : Option Addr) (n cA : Nat) (hT : TuA A n x.tube w) (hn : n ≤ maxLen)
  (hs1 : x.call.size ≤ maxLen) (hs2 : x.by_.size ≤ maxLen) (hs3 : x.to_.size ≤ maxLen) (ks : Nat → ByteArray) (hks : KsAt ks w) (hko : KsOk ks) :
  Calls Tryz.prog 39 #[.pointer (some ⟨g, 0, none⟩), inpV x A n cA] w fun e w' => StepL N g S w (stepP ks S c x) e w' ∧ Off F w w' ∧ ∃ F' : Nat → Prop, CeAt F' g S (stepP ks S c x).1 w' ∧ (∀ b, F' b → F b ∨ w.heap.size ≤ b) := by
 obtain ⟨y, hM⟩ := h
 refine (Step_any hM hok hS h20 x A n cA hT hn hs1 hs2 hs3 ks hks hko (fun h => by have := hF 0 h; omega)).mono ?_
 rintro e w' ⟨h1, F', h2, h3, h4⟩
 exact ⟨⟨h1, h3.below hF hN, F', h2, fun b hb => (h4 b hb).elim (hF b) (fun h => by omega)⟩, h3, F', h2, h4⟩
end Go.Proofs.YtaebebpldkciiaaGreatDoor
