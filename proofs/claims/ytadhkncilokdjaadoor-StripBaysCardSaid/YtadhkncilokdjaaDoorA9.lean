/- Package strip: New, the fixed example. -/
import Derived.Test.YtadhkncilokdjaaDoorA8
namespace Go.Proofs.YtadhkncilokdjaaDoor
open Go.RowKit
open Go.Lib hiding intOf

theorem New_any (w : World) : Calls Tryd.prog 5 #[] w fun x w' => x = .returned (.pointer (some ⟨w.heap.size, 0, none⟩)) ∧ BdV w.heap.size none 0 [] w' ∧ Below w.heap.size w w' := by
  go_enter Tryd.func5, Tryd.ntmps5
  go_wp2
  go_ret
  exact ⟨rfl, ⟨heap_alloc_new w _, World.ownsRow_nil _ _ _ _⟩, (Below.refl _ _).alloc (Nat.le_refl _) _⟩

def ab1 : Va := ⟨⟨⟨#[65, 66, 49]⟩, ⟨#[70, 73, 88]⟩, 100, 5000, 0⟩, by decide⟩
theorem dd0 : decDigits 0 = [48] := by rw [decDigits, dif_pos (by decide)]; rfl
theorem dd100 : decDigits 100 = [49, 48, 48] := by
  rw [decDigits_big (by decide), decDigits_big (by decide), decDigits, dif_pos (by decide)]; rfl
theorem dd5000 : decDigits 5000 = [53, 48, 48, 48] := by
  rw [decDigits_big (by decide), decDigits_big (by decide), decDigits_big (by decide), decDigits, dif_pos (by decide)]; rfl
theorem line_ab1 : lineB 0 ab1.1 = [48, 32, 49, 48, 48, 32, 65, 66, 49, 32, 70, 73, 88, 32, 53, 48, 48, 48, 10] := by
  have e1 : itoa ((0 : Nat) : Int) = [48] := by unfold itoa; rw [if_neg (by decide)]; exact dd0
  have e2 : itoa (100 : Int) = [49, 48, 48] := by unfold itoa; rw [if_neg (by decide)]; exact dd100
  have e3 : itoa (5000 : Int) = [53, 48, 48, 48] := by unfold itoa; rw [if_neg (by decide)]; exact dd5000
  unfold lineB ab1
  rw [e1, e2, e3]
  rfl

theorem Text_ab1 {g c : Nat} {A : Option Addr} {w : World} (h : BdV g A c [ab1] w) (he : Env w) :
    Calls Tryd.prog 16 #[.pointer (some ⟨g, 0, none⟩)] w fun e w' => e = .returned (.string ⟨#[48, 32, 49, 48, 48, 32, 65, 66, 49, 32, 70, 73, 88, 32, 53, 48, 48, 48, 10]⟩) ∧ Below w.heap.size w w' := by
  refine (Text_any h (by simp) he).mono ?_
  rintro e w' ⟨S, rfl, hS, hb⟩
  refine ⟨?_, hb⟩
  have h0 : S 0 = [ab1] := by
    have := hS 0 (by decide)
    rw [show bayF ((0 : Nat) : Int) [ab1] = [ab1] from rfl] at this
    exact List.perm_singleton.1 this
  have hn : ∀ k, 0 < k → k < 4 → S k = [] := fun k h1 h2 => by
    have := hS k h2
    rw [show bayF (k : Int) [ab1] = [] from by
      unfold bayF
      rw [List.filter_cons, if_neg]
      · rfl
      · show ¬ (decide ((0 : Int) = (k : Int)) = true)
        rw [decide_eq_true_eq]; omega] at this
    exact List.perm_nil.1 this
  have e : allSt S 4 = lineB 0 ab1.1 := by
    simp only [allSt, h0, hn 1 (by decide) (by decide), hn 2 (by decide) (by decide), hn 3 (by decide) (by decide), baySt, List.flatMap_nil, List.append_nil, List.nil_append, List.flatMap_cons]
  rw [e, line_ab1]
  rfl

set_option maxRecDepth 100000 in
set_option maxHeartbeats 2000000 in
theorem fact_any (w : World) (he : Env w) : Calls Tryd.prog 6 #[] w fun e w' => e = .returned (.bool true) ∧ Below w.heap.size w w' := by
  have HE := Lib.hid he
  clear he
  go_enter Tryd.func6, Tryd.ntmps6
  go_wp2_with (first
    | (go_at_call 5; go_loud (refine (New_any w).mono ?_; rintro e w1 ⟨rfl, hbd, hb1⟩; have HBd := Lib.hid hbd; have HB1 := Lib.hid hb1; clear hbd hb1))
    | (go_at_call 7; go_loud (refine (Put_ok (x := ab1) HBd.out (by simp) (by decide) (by decide) rfl).mono ?_; rintro e w2 ⟨A', c', rfl, hbd, hb2, _, _⟩; have HBd2 := Lib.hid hbd; have HB2 := Lib.hid (HB1.out.trans hb2); clear hbd hb2))
    | (go_at_call 16; go_loud (refine (Text_ab1 HBd2.out (HE.out.below HB2.out)).mono ?_; rintro e w3 ⟨rfl, hb3⟩)))
  go_ret
  exact ⟨rfl, HB2.out.trans (hb3.mono HB2.out.size)⟩
end Go.Proofs.YtadhkncilokdjaaDoor
