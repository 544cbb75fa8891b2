/- Package label: Place, the fixed example. -/
import Derived.Test.YtpnihjomemojlaaB5
namespace Go.Proofs.Ytpnihjomemojlaa
open Go.RowKit

/-- What Place answers. -/
def placeX (l : List It) : List Int × Int := if ckL l ≠ 0 then ([], ckL l) else if 6 < l.length then ([], 2) else if l.length = 0 then ([], 0) else match srch l l.length [] [] with | none => ([], 8) | some s => (s, 0)
def PlaceP (l : List It) (w : World) (e : Ending) (w' : World) : Prop :=
  ∃ A c, e = .returned (.tuple #[.slice A (placeX l).1.length c, .int .i64 (placeX l).2]) ∧ Sl w' w'.heap.size 1 A (placeX l).1.length (fun i => intV1 (placeX l).1[i]!) ∧ Below w.heap.size w w'
theorem PlaceP_nil {l : List It} {k : Int} (h : placeX l = ([], k)) {w w' : World} (hb : Below w.heap.size w w') : PlaceP l w (.returned (.tuple #[.slice none 0 0, .int .i64 k])) w' := by
  unfold PlaceP
  rw [h]
  exact ⟨none, 0, rfl, Sl.none_, hb⟩

set_option maxRecDepth 100000 in
set_option maxHeartbeats 2000000 in
theorem Place_any (A : Option Addr) (n c : Nat) (l : List It) (w : World) (hA : Sl w w.heap.size 4 A n (fun i => itV l[i]!)) (hl : l.length = n) (hn : n ≤ 1000) :
    Calls Try.prog 10 #[.slice A n c] w (PlaceP l w) := by
  have HCk := Lib.hid (Check_any A n c l w hA hl hn)
  by_cases h0 : ckL l = 0
  · rw [h0] at HCk
    by_cases h6 : 6 < n
    · have HP := Lib.hid (show placeX l = ([], 2) by unfold placeX; rw [if_neg (fun h => h h0), if_pos (by omega)])
      have hq : (6 : Int) < (n : Int) := by omega
      clear hA hl h0
      go_enter Try.func10, Try.ntmps10
      go_wp2_with (go_at_call 18; go_loud (refine HCk.out.mono ?_; rintro e w1 ⟨rfl, hb1⟩))
      go_ret2
      exact PlaceP_nil HP.out hb1
    · rcases Nat.eq_zero_or_pos n with hz | hz
      · have HP := Lib.hid (show placeX l = ([], 0) by unfold placeX; rw [if_neg (fun h => h h0), if_neg (by omega), if_pos (by omega)])
        subst hz
        clear hA hl h0
        go_enter Try.func10, Try.ntmps10
        go_wp2_with (go_at_call 18; go_loud (refine HCk.out.mono ?_; rintro e w1 ⟨rfl, hb1⟩))
        go_ret2
        exact PlaceP_nil HP.out hb1
      · have hq : ¬ (6 : Int) < (n : Int) := by omega
        have hq0 : ((n : Int) == 0) = false := by simp; omega
        have HS := Lib.hid (fun (W : World) (hW : Below w.heap.size w W) => search_any A n c l W hl (by omega) hz ((hA.below hW).more hW.size))
        have HPx : Hid (placeX l = match srch l n [] [] with | none => ([], 8) | some s => (s, 0)) := Lib.hid (by unfold placeX; rw [if_neg (fun h => h h0), if_neg (by omega), if_neg (by omega), hl])
        clear hA hl h0
        cases hs : srch l n [] [] with
        | none =>
          rw [hs] at HS HPx
          have HS1 := Lib.hid (fun W hW => (HS.out W hW).mono fun _ _ h => h.no)
          clear hs
          have hk1 := fun (W : World) => Lib.run_eql_slice_nil (P := Try.prog) W 32 3 none 0 0 0 0 Try.underlying32
          go_enter Try.func10, Try.ntmps10
          go_wp2_with (first
            | (go_at_call 18; go_loud (refine HCk.out.mono ?_; rintro e w1 ⟨rfl, hb1⟩))
            | (go_at_call 19; go_loud (refine (HS1.out _ hb1).mono ?_; rintro e w2 ⟨rfl, hb2⟩)))
          go_ret2
          exact PlaceP_nil HPx.out (hb1.trans (hb2.mono hb1.size))
        | some s =>
          rw [hs] at HS HPx
          have HS1 := Lib.hid (fun W hW => (HS.out W hW).mono fun _ _ h => h.yes)
          clear hs
          have hk1 := fun (W : World) (a : Addr) (m c : Nat) => Lib.run_eql_slice_nil (P := Try.prog) W 32 3 (some a) m c 0 0 Try.underlying32
          go_enter Try.func10, Try.ntmps10
          go_wp2_with (first
            | (go_at_call 18; go_loud (refine HCk.out.mono ?_; rintro e w1 ⟨rfl, hb1⟩))
            | (go_at_call 19; go_loud (refine (HS1.out _ hb1).mono ?_; rintro e w2 ⟨a2, c2, rfl, hs2, hb2⟩; have S2 := Lib.hid hs2; clear hs2)))
          go_ret2
          unfold PlaceP
          rw [HPx.out]
          exact ⟨some a2, c2, rfl, S2.out, hb1.trans (hb2.mono hb1.size)⟩
  · have HP := Lib.hid (show placeX l = ([], ckL l) by unfold placeX; rw [if_pos h0])
    obtain ⟨ce, hce⟩ : ∃ ce, ckL l = ce := ⟨_, rfl⟩
    rw [hce] at HCk HP h0
    have t1 : (ce != 0) = true := by simpa using h0
    clear hA hl h0 hce
    go_enter Try.func10, Try.ntmps10
    go_wp2_with (go_at_call 18; go_loud (refine HCk.out.mono ?_; rintro e w1 ⟨rfl, hb1⟩))
    go_ret2
    exact PlaceP_nil HP.out hb1

/-- The fixed example. -/
def fixL : List It := [⟨0, 0, 2, 2⟩, ⟨9, 9, 2, 2⟩]
theorem fix_place : placeX fixL = ([0, 0], 0) := by kernel_rfl
end Go.Proofs.Ytpnihjomemojlaa
