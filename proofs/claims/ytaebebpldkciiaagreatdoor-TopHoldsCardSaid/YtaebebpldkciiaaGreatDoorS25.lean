/- TopHolds: a node among nodes; the plain law. -/
import Derived.Test.YtaebebpldkciiaaGreatDoorG05
import Derived.Test.YtaebebpldkciiaaGreatDoorG14
import Derived.Test.YtaebebpldkciiaaGreatDoorShQ
import Derived.Laws.StructEq
namespace Go.Proofs.YtaebebpldkciiaaGreatDoor
open Go.RowKit

def eqN (x y : Nd) : Bool := x.t == y.t && (x.x == y.x && x.y == y.y) && x.h == y.h && x.r == y.r && x.b == y.b
theorem eqN_refl (x : Nd) : eqN x x = true := by simp [eqN]
theorem eqNs : EqlAt Tryz.prog 52 (fun x => .agg (ndV x).toArray) eqN := by
  refine ⟨fun x y w => ?_, GuardAt.agg _ (by kernel_rfl)⟩
  have u3 := Tryz.underlying3
  have a3 := Tryz.isAgg3
  have z3 := Tryz.sizeOf3
  have hS : Tryz.prog.underlying 52 = some (.struct (Tryz.prog.fieldsOf 52)) := by kernel_rfl
  have hp : Tryz.prog.stoodInHeld 52 = false := by kernel_rfl
  obtain ⟨a, b, c, d, e, f⟩ := x
  obtain ⟨a', b', c', d', e', f'⟩ := y
  simp only [ndV, eqN]
  rw [run_eql_struct, show (10000 : Nat) = 9999 + 1 from rfl, run_equalIn_agg w 9999 52 _ _ hS hp]
  simp only [Program.fieldsOf, Tryz.underlying52]
  go_simp
  by_cases h1 : a = a' <;> by_cases h2 : b = b' <;> by_cases h3 : c = c' <;> by_cases h4 : d = d' <;> by_cases h5 : e = e' <;> by_cases h6 : f = f' <;> simp [h1, h2, h3, h4, h5, h6]
set_option maxHeartbeats 1000000 in
theorem IndexN_none (A : Option Addr) (c : Nat) (x : Nd) (w : World) : Calls Tryz.prog 52 #[.slice A 0 c, ndA x] w fun e w' => e = .returned (.int .i64 (-1)) ∧ Below w.heap.size w w' := by
  obtain ⟨a, b, c2, d, e, f⟩ := x
  unfold ndA
  go_enter Tryz.func52, Tryz.ntmps52
  go_wp2
  go_loop [8] (fun k => k = .int .i64 0) (fun _ => 0)
  case atStart => rfl
  case round =>
    obtain rfl := hrel
    go_wp2
    go_ret
    exact ⟨rfl, (Below.refl _ w).alloc (Nat.le_refl _) _⟩
set_option maxHeartbeats 1000000 in
theorem HasN_any (n c : Nat) (A : Option Addr) (zs : List Nd) (x : Nd) (w : World) (hs : Sl w w.heap.size 6 A n (fun i => ndV zs[i]!)) (hz : zs.length = n) (hn : n ≤ 1000) :
    Calls Tryz.prog 17 #[.slice A n c, ndA x] w fun e w' => e = .returned (.bool (zs.any fun y => eqN x y)) ∧ Below w.heap.size w w' := by
  rcases Nat.eq_zero_or_pos n with h0 | h0
  · subst h0
    have hz0 := List.eq_nil_of_length_eq_zero hz
    subst hz0
    have HI := Lib.hid (fun W => IndexN_none A c x W)
    obtain ⟨a, b, c2, d, e, f⟩ := x
    unfold ndA at HI ⊢
    clear hs
    go_enter Tryz.func17, Tryz.ntmps17
    go_wp2_with (go_at_call 52; go_loud (refine (HI.out _).mono ?_; rintro e w' ⟨rfl, hb⟩))
    go_ret
    exact ⟨rfl, ((Below.refl _ w).alloc (Nat.le_refl _) _).trans (hb.mono (by simp))⟩
  · obtain ⟨b, off, rfl, hb, hr⟩ := hs h0
    have hcon := AnyQ.slices_Contains Tryz.l17 6 Tryz.isAgg52 Tryz.sizeOf52 ndV ndV_len eqN eqNs b off n c zs x w (by omega) (by omega) (fun j hj i v hi => hr j (by omega) i v hi)
    rw [List.take_of_length_le (by omega)] at hcon
    exact hcon
/-- A flight of one leg, at a time from the leg's first on. -/
theorem places_one {f : Fl} {leg : Tu} (h1 : f.legs = [leg]) {t : Int} (ht : fstT leg ≤ t) : placesP f t = nodeAt leg t ++ nodeAt f.next t := by
  unfold placesP legP
  rw [h1]
  simp [ht]
theorem places_has {f : Fl} {leg : Tu} (h1 : f.legs = [leg]) {t : Int} (ht : fstT leg ≤ t) (h0 : (tubeAt leg t).2 = 0) : ((placesP f t).any fun y => eqN (tubeAt leg t).1 y) = true := by
  rw [places_one h1 ht]
  unfold nodeAt
  rw [if_pos h0]
  simp [eqN_refl]
theorem places_no {f : Fl} {leg : Tu} (h1 : f.legs = [leg]) {t : Int} (ht : fstT leg ≤ t) (h0 : (tubeAt leg t).2 ≠ 0) (hn : f.next = []) : placesP f t = [] := by
  rw [places_one h1 ht, hn]
  unfold nodeAt
  have h3 : ¬ (tubeAt [] t).2 = 0 := by
    unfold tubeAt
    rw [if_pos (by decide)]
    decide
  rw [if_neg h0, if_neg h3]
  rfl
end Go.Proofs.YtaebebpldkciiaaGreatDoor
