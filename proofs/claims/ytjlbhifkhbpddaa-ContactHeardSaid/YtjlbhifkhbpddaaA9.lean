/- The walk of ContactHeard. -/
import Derived.Test.YtjlbhifkhbpddaaA8
import Derived.Laws.StructEq
namespace Go.Proofs.Ytjlbhifkhbpddaa
open Go.RowKit

def eqC (x y : Cs) : Bool := x.1.toList == y.1.toList && x.2.1 == y.2.1 && x.2.2 == y.2.2
theorem eqC_iff {x y : Cs} : eqC x y = true ↔ x = y := by
  obtain ⟨a, b, c⟩ := x
  obtain ⟨a', b', c'⟩ := y
  unfold eqC
  simp only [Bool.and_eq_true, beq_iff_eq, Prod.mk.injEq]
  constructor
  · rintro ⟨⟨h1, h2⟩, h3⟩
    exact ⟨ba_ext h1, h2, h3⟩
  · rintro ⟨rfl, rfl, rfl⟩
    exact ⟨⟨rfl, rfl⟩, rfl⟩
theorem eqCs : EqlAt Try.prog 27 (fun x => .agg (csV x).toArray) eqC := by
  refine ⟨fun x y w => ?_, GuardAt.agg _ (by kernel_rfl)⟩
  have u3 := Try.underlying3
  have a3 := Try.isAgg3
  have z3 := Try.sizeOf3
  have u9 := Try.underlying9
  have a9 := Try.isAgg9
  have z9 := Try.sizeOf9
  have hS : Try.prog.underlying 27 = some (.struct (Try.prog.fieldsOf 27)) := by kernel_rfl
  have hp : Try.prog.stoodInHeld 27 = false := by kernel_rfl
  obtain ⟨a, b, c⟩ := x
  obtain ⟨a', b', c'⟩ := y
  simp only [csV, eqC]
  rw [run_eql_struct, show (10000 : Nat) = 9999 + 1 from rfl, run_equalIn_agg w 9999 27 _ _ hS hp]
  simp only [Program.fieldsOf, Try.underlying27]
  go_simp
  by_cases h1 : a.toList = a'.toList <;> by_cases h2 : b = b' <;> by_cases h3 : c = c' <;> simp [h1, h2, h3]

def memB (zs : List Cs) (x : Cs) : Bool := zs.any fun y => eqC x y
theorem memB_iff {zs : List Cs} {x : Cs} : memB zs x = true ↔ x ∈ zs := by
  unfold memB
  rw [List.any_eq_true]
  constructor
  · rintro ⟨y, hy, he⟩
    rw [eqC_iff.1 he]; exact hy
  · intro h
    exact ⟨x, h, eqC_iff.2 rfl⟩

set_option maxHeartbeats 1000000 in
theorem Index_none (A : Option Addr) (c : Nat) (x : Cs) (w : World) : Calls Try.prog 24 #[.slice A 0 c, .agg #[.string x.1, .int .i64 x.2.1, .int .i64 x.2.2]] w fun e w' => e = .returned (.int .i64 (-1)) ∧ Below w.heap.size w w' := by
  obtain ⟨xc, xf, xt⟩ := x
  go_enter Try.func24, Try.ntmps24
  go_wp2
  go_loop [8] (fun k => k = .int .i64 0) (fun _ => 0)
  case atStart => rfl
  case round =>
    obtain rfl := hrel
    go_wp2
    go_ret
    exact ⟨rfl, (Below.refl _ w).alloc (Nat.le_refl _) _⟩

set_option maxHeartbeats 1000000 in
theorem HasC_any (n c : Nat) (A : Option Addr) (zs : List Cs) (x : Cs) (w : World) (hs : Sl w w.heap.size 3 A n (fun i => csV zs[i]!)) (hz : zs.length = n) (hn : n ≤ 1000) :
    Calls Try.prog 14 #[.slice A n c, .agg #[.string x.1, .int .i64 x.2.1, .int .i64 x.2.2]] w fun e w' => e = .returned (.bool (memB zs x)) ∧ Below w.heap.size w w' := by
  rcases Nat.eq_zero_or_pos n with h0 | h0
  · subst h0
    have hz0 := List.eq_nil_of_length_eq_zero hz
    subst hz0
    have HI := Lib.hid (fun W => Index_none A c x W)
    obtain ⟨xc, xf, xt⟩ := x
    clear hs
    go_enter Try.func14, Try.ntmps14
    go_wp2_with (go_at_call 24; go_loud (refine (HI.out _).mono ?_; rintro e w' ⟨rfl, hb⟩))
    go_ret
    exact ⟨rfl, ((Below.refl _ w).alloc (Nat.le_refl _) _).trans (hb.mono (by simp))⟩
  · obtain ⟨b, off, rfl, hb, hr⟩ := hs h0
    have hcon := AnyQ.slices_Contains Try.l14 3 Try.isAgg27 Try.sizeOf27 csV csV_len eqC eqCs b off n c zs x w (by omega) (by omega) (fun j hj i v hi => hr j (by omega) i v hi)
    rw [List.take_of_length_le (by omega)] at hcon
    exact hcon

def CutP := True
theorem mem_lost {l : List Cs} {t lim : Int} {x : Cs} (h : x ∈ l) : x ∈ lostL l t lim ↔ lim < t - x.2.2 := by
  unfold lostL
  rw [List.mem_filter]
  simp [h]
theorem lost_later {l : List Cs} {t u lim : Int} {x : Cs} (h : x ∈ lostL l t lim) (hu : t ≤ u) : x ∈ lostL l u lim := by
  unfold lostL at h ⊢
  rw [List.mem_filter] at h ⊢
  refine ⟨h.1, ?_⟩
  have := h.2
  simp only [decide_eq_true_eq] at this ⊢
  omega
end Go.Proofs.Ytjlbhifkhbpddaa
