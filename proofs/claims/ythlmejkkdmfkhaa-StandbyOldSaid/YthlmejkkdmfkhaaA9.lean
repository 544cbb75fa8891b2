/- The fixed example of the laws on package standby. -/
import Derived.Test.YthlmejkkdmfkhaaA8
namespace Go.Proofs.Ythlmejkkdmfkhaa
open Go.RowKit

def pr0 : Pr := ⟨[], [], [], 1, 0, 0⟩
def sx : ByteArray := { data := #[120] }
theorem Wf.pr0 : Wf 1 pr0 := Wf.start
def pr1 : Pr := pr0.submit sx
def pr2 : Pr := pr1.deliver 0
def pr3 : Pr := pr2.deliver 0
theorem wf1 : Wf 1 pr1 := Wf.pr0.submit sx
theorem wf2 : Wf 1 pr2 := wf1.deliver 0
theorem wf3 : Wf 1 pr3 := wf2.deliver 0
theorem pr3_ss : pr3.ss = [sx] := rfl
theorem pr3_ans : pr3.ans = 1 := rfl

theorem strs_sl {w : World} {l : List ByteArray} {A : Option Addr} {c base : Nat} (h : w.ownsRow base 9 1 (.slice A l.length c) l.length (strsV l)) : Sl w w.heap.size 1 A l.length (rowS l) := Sl_flat (fun _ _ => rfl) (by rw [rowS_flat]; exact h)
set_option maxRecDepth 100000 in
set_option maxHeartbeats 4000000 in
theorem fact_any (w : World) : Calls Try.prog 8 #[] w fun e w' => e = .returned (.bool true) ∧ Below w.heap.size w w' := by
  have tok1 : True := trivial
  have HE0 : Hid (pr0.subN = 1 ∧ pr0.subE = 0 ∧ pr1.deliverE 0 = 0 ∧ pr2.deliverE 0 = 0) := Lib.hid ⟨rfl, rfl, rfl, rfl⟩
  go_enter Try.func8, Try.ntmps8
  go_wp2_with (first
    | (go_at_call 7; refine (New_any _).mono ?_; rintro e w1 ⟨rfl, hp1, hb1⟩; have H1 := Lib.hid (And.intro hp1 hb1); clear hp1 hb1)
    | (go_at_call 26; go_loud (refine (Submit_any (p := pr0) H1.out.1 sx (by decide) (by decide) (by decide)).mono ?_; rintro e w2 ⟨vp2, vs2, vw2, he2, hp2, hc2⟩; rw [HE0.out.1, HE0.out.2.1] at he2; subst he2; have H2 := Lib.hid (And.intro hp2 hc2); clear hp2 hc2))
    | (go_at_call 22; have _t := tok1; go_loud (refine (Deliver_any (p := pr1) H2.out.1 0 wf1).mono ?_; rintro e w3 ⟨vp3, vs3, vw3, he3, hp3, hc3⟩; rw [HE0.out.2.2.1] at he3; subst he3; have H3 := Lib.hid (And.intro hp3 hc3); clear hp3 hc3 tok1))
    | (go_at_call 22; go_loud (refine (Deliver_any (p := pr2) H3.out.1 0 wf2).mono ?_; rintro e w4 ⟨vp4, vs4, vw4, he4, hp4, hc4⟩; rw [HE0.out.2.2.2] at he4; subst he4; have H4 := Lib.hid (And.intro hp4 hc4); clear hp4 hc4))
    | (go_at_call 12; go_loud (refine (Answered_any (p := pr3) H4.out.1).mono ?_; rintro e w5 ⟨he5, rfl⟩; rw [pr3_ans] at he5; subst he5))
    | (go_at_call 17; go_loud (refine (Standby_any (p := pr3) H4.out.1 (by decide)).mono ?_; rintro e w6 ⟨A6, c6, he6, hv6, hb6⟩; rw [pr3_ss] at he6 hv6; have he6 : e = .returned (.slice A6 1 c6) := he6; subst he6; have H6 := Lib.hid (And.intro hv6 hb6); clear hv6 hb6))
    | (go_at_call 13; go_loud (refine (EqualS A6 (some ⟨w6.heap.size, 0, none⟩) [sx] 1 c6 1 (w6.heap.size + 1) _ (((strs_sl H6.out.1).below ((Below.refl _ _).alloc (Nat.le_refl _) _)).more (by omega)) (fun _ => ⟨w6.heap.size, 0, rfl, by omega, fun i hi j u hu => by
          have hi : i < 1 := hi
          obtain rfl : i = 0 := by omega
          rw [cell_of_row _ w6.heap.size _ _ 9 (0, 0) (heap_alloc_new w6 _), ← Array.getElem?_toList]
          simpa [rowS, sx] using hu⟩) rfl (by decide)).mono ?_; rintro e w7 ⟨rfl, q7, rfl⟩)))
  go_ret
  refine ⟨rfl, ?_⟩
  have hc := (H2.out.2.trans H3.out.2).trans H4.out.2
  exact (H1.out.2.trans (hc.below.trans (H6.out.2.mono (Nat.le_of_lt H4.out.1.lt)))).trans (below_drewN ((Below.refl _ _).alloc (by have := H6.out.2.size; have := H4.out.1.lt; omega) _) q7)
end Go.Proofs.Ythlmejkkdmfkhaa
