/- The closure of ApproachPromised, slices.ContainsFunc. -/
import Derived.Test.YtmdfdjgeaemicaaA3
import Derived.Test.YtmdfdjgeaemicaaSh
namespace Go.Proofs.Ytmdfdjgeaemicaa
open Go.RowKit Go.Shelf Go.Proofs

instance : Inhabited It := ⟨⟨ByteArray.empty, 0, 0, 0⟩⟩
def overB (x : It) : Bool := decide (x.sl < x.rd)

set_option maxHeartbeats 1000000 in
theorem pred19 (w : World) : PredBelow Try.prog 19 #[] (fun x => .agg (It.row x).toArray) overB w := fun W x hb => by
  show Calls _ _ _ _ fun e w' => e = .returned (.bool (overB x)) ∧ _
  have HB := Lib.hid hb
  have HO : Hid (overB x = decide (x.sl < x.rd)) := Lib.hid rfl
  generalize overB x = r at *
  obtain ⟨x1, x2, x3, x4⟩ := x
  clear hb
  show Calls Try.prog 19 #[.agg #[.string x1, .int .i64 x2, .int .i64 x3, .int .i64 x4]] W _
  go_enter Try.func19, Try.ntmps19
  go_wp2
  go_ret
  refine ⟨?_, HB.out.alloc HB.out.size _⟩
  have h := HO.out
  subst h
  rfl

set_option maxHeartbeats 1000000 in
theorem over_any (A : Option Addr) (n c : Nat) (its : Nat → It) (w : World) (hA : Sl w w.heap.size 4 A n (fun i => (its i).row)) (hn : n ≤ 100) :
    Calls Try.prog 18 #[.slice A n c, .func (.func 19) #[] #[]] w fun e w' => e = .returned (.bool (((List.range n).map its).any overB)) ∧ Below w.heap.size w w' := by
  rcases Nat.eq_zero_or_pos n with rfl | hn0
  · have h0 : ∀ (a : Option Addr) (W : World), Calls Try.prog 25 #[.slice a 0 c, .func (.func 19) #[] #[]] W fun e w' => e = .returned (.int .i64 (-1)) ∧ w' = W := fun a W => by
      go_enter Try.func25, Try.ntmps25
      go_wp2
      go_loopw [5, 8] (fun _ i wr => i = .int .i64 0 ∧ wr = W) (fun _ _ _ => 1)
      case atStart => exact ⟨rfl, rfl⟩
      case round =>
        obtain ⟨rfl, rfl⟩ := hrel
        go_wp2
        go_ret
        exact ⟨rfl, rfl⟩
    have H0 := Lib.hid h0
    clear h0 hA
    go_enter Try.func18, Try.ntmps18
    go_wp2_with (go_at_call 25; go_loud (refine (H0.out _ _).mono ?_; rintro e w' ⟨rfl, rfl⟩))
    go_ret
    exact ⟨rfl, Below.refl _ _⟩
  · obtain ⟨bb, off, rfl, hb, hr⟩ := hA hn0
    have eg : ∀ args w, (callFunc 19 args).run Try.prog w = .ok (.enter 19 args) w := enters_of Try.func19 (by kernel_rfl) rfl
    have hcon := AnyQ.slices_ContainsFunc Try.l18 4 Try.isAgg32 Try.sizeOf32 It.row (fun _ => rfl) overB 19 #[] eg bb off n c ((List.range n).map its) w
      (pred19 w) (by simp) (by omega) hb (fun j hj i v hi => by
        have hj' : j < n := by simpa using hj
        have e : ((List.range n).map its)[j]! = its j := by simp [hj']
        rw [e] at hi
        exact hr j hj' i v hi)
    rw [List.take_of_length_le (by simp)] at hcon
    exact hcon
end Go.Proofs.Ytmdfdjgeaemicaa
