/- The rule fast. -/
import Derived.Test.YtdmecagdjbjgjaaR19
import Derived.Deep.QuietTactic
namespace Go.Proofs.Ytdmecagdjbjgjaa
open Go.RowKit

theorem n3_below {w3 W W' : World} {p q : Nat} {x0 x1 x2 : Value} (hb : Below W.heap.size W W') (hq : q < w3.heap.size) (hp : p < w3.heap.size)
    (hs : Below w3.heap.size w3 W ∧ W.cell? ⟨q, 5, none⟩ = some x0 ∧ W.cell? ⟨q, 6, none⟩ = some x1 ∧ W.cell? ⟨p, 0, none⟩ = some x2) :
    Below w3.heap.size w3 W' ∧ W'.cell? ⟨q, 5, none⟩ = some x0 ∧ W'.cell? ⟨q, 6, none⟩ = some x1 ∧ W'.cell? ⟨p, 0, none⟩ = some x2 := by
  have hz := hs.1.size
  have K : ∀ (b o : Nat) (v : Value), b < w3.heap.size → W.cell? ⟨b, o, none⟩ = some v → W'.cell? ⟨b, o, none⟩ = some v := fun b o v hlt h => (hb.cell (p := ⟨b, o, none⟩) (Nat.lt_of_lt_of_le hlt hz)).trans h
  exact ⟨hs.1.trans (hb.mono hz), K _ _ _ hq hs.2.1, K _ _ _ hq hs.2.2.1, K _ _ _ hp hs.2.2.2⟩

def fastB (sp : Int) (x : Tr) : Bool := decide (256 * sp * sp < x.u * x.u + x.v * x.v)

set_option maxRecDepth 100000 in
set_option maxHeartbeats 8000000 in
theorem fast1_any (s : Sc) (x : Tr) (p : Nat) (sp : Int) (W : World) (hp : W.cell? ⟨p, 0, none⟩ = some (.int .i64 sp)) (hsp : 0 ≤ sp ∧ sp ≤ 400) (hx : ¬ BadT x) :
    Calls Try.prog 46 #[s.val, trV x, .pointer (some ⟨p, 0, none⟩)] W fun e w' => e = .returned (.bool (fastB sp x)) ∧ Below W.heap.size W w' := by
  have hpl : p < W.heap.size := World.block_lt_of_cell? W ⟨p, 0, none⟩ hp
  unfold BadT at hx
  have hm1 := mul_bd (m := 400) (a := sp) (b := sp) (by omega) (by omega)
  have m1 : IntKind.i64.wrap (256 * sp) = 256 * sp := IntWalk.i64_in _ (by omega)
  have hm2 : 256 * sp * sp = 256 * (sp * sp) := Int.mul_assoc _ _ _
  have m2 : IntKind.i64.wrap (256 * sp * sp) = 256 * sp * sp := IntWalk.i64_in _ (by rw [hm2]; omega)
  have HR : Hid (fastB sp x = decide (256 * sp * sp < x.u * x.u + x.v * x.v)) := Lib.hid rfl
  generalize fastB sp x = r at *
  obtain ⟨z0, z1, z2, z3, z4, u, v, z7, z8, z9, z10, z11, z12⟩ := x
  dsimp only at hx HR
  have HD := Lib.hid (fun W => Dot_any u v u v W ⟨by omega, by omega⟩ ⟨by omega, by omega⟩ ⟨by omega, by omega⟩ ⟨by omega, by omega⟩)
  obtain ⟨m, hm⟩ : ∃ m, 256 * sp * sp = m := ⟨_, rfl⟩
  rw [hm] at HR
  replace m2 := m2.trans hm
  generalize u * u + v * v = d at *
  clear hm1 hm2 hm hx hsp
  obtain ⟨w1, hw1⟩ : ∃ V, W.alloc (.cells #[.int .i64 s.tm, .slice s.A s.n s.c, .slice s.B s.m s.d] 25) = V := ⟨_, rfl⟩
  obtain ⟨wx, hwx⟩ : ∃ V, w1.alloc (.cells #[.int .i64 z0, .int .i64 z1, .int .i64 z2, .int .i64 z3, .int .i64 z4, .int .i64 u, .int .i64 v, .int .i64 z7, .int .i64 z8, .int .i64 z9, .int .i64 z10, .int .i64 z11, .int .i64 z12] 41) = V := ⟨_, rfl⟩
  have hb1 : Below W.heap.size W w1 := by rw [← hw1]; exact (Below.refl _ _).alloc (Nat.le_refl _) _
  have hb2 : Below w1.heap.size w1 wx := by rw [← hwx]; exact (Below.refl _ _).alloc (Nat.le_refl _) _
  have hy : wx.heap[w1.heap.size]? = some (.cells #[.int .i64 z0, .int .i64 z1, .int .i64 z2, .int .i64 z3, .int .i64 z4, .int .i64 u, .int .i64 v, .int .i64 z7, .int .i64 z8, .int .i64 z9, .int .i64 z10, .int .i64 z11, .int .i64 z12] 41 (0, 0)) := by rw [← hwx]; exact heap_alloc_new _ _
  have hb12 := hb1.trans (hb2.mono hb1.size)
  have HB := Lib.hid hb12
  have hpc := (hb12.cell (p := ⟨p, 0, none⟩) hpl).trans hp
  have hqx : w1.heap.size < wx.heap.size := by rw [← hwx]; simp
  have hpx : p < wx.heap.size := Nat.lt_of_lt_of_le hpl hb12.size
  obtain ⟨q, hq⟩ : ∃ q, w1.heap.size = q := ⟨_, rfl⟩
  rw [hq] at hy hqx
  have hs0 : Below wx.heap.size wx wx.drew ∧ wx.drew.cell? ⟨q, 5, none⟩ = some (.int .i64 u) ∧ wx.drew.cell? ⟨q, 6, none⟩ = some (.int .i64 v) ∧ wx.drew.cell? ⟨p, 0, none⟩ = some (.int .i64 sp) := ⟨(Below.refl _ _).drew, cell_of_row wx q 5 _ 41 (0, 0) hy, cell_of_row wx q 6 _ 41 (0, 0) hy, hpc⟩
  clear hb1 hb2 hb12 hy hp hpc
  unfold Sc.val trV
  go_enter Try.func46, Try.ntmps46
  go_wp2
  refine wp_region_held_drew (S := (fun W => Below wx.heap.size wx W ∧ W.cell? ⟨q, 5, none⟩ = some (.int .i64 u) ∧ W.cell? ⟨q, 6, none⟩ = some (.int .i64 v) ∧ W.cell? ⟨p, 0, none⟩ = some (.int .i64 sp))) (by kernel_rfl) hs0 (fun hHeld => ?_)
  refine wpAnyH_take (i := 0) (oi := ⟨some 6, _, _, _, _, _⟩) (v := ?fv0) rfl (by kernel_rfl) (by kernel_rfl) (by kernel_rfl) (fun _ _ _ h => h) (Or.inl ⟨by rfl, ?fy0⟩) hHeld ?fr0
  case fy0 => (intro W hSw; (try dsimp only at hSw); go_simp; try with_reducible rfl)
  try simp only [Act.put, List.setIfInBounds_toArray, List.set_cons_zero, List.set_cons_succ]
  refine wpAnyH_take (i := 1) (oi := ⟨some 7, _, _, _, _, _⟩) (v := ?fv1) rfl (by kernel_rfl) (by kernel_rfl) (by kernel_rfl) (fun _ _ _ h => h) (Or.inl ⟨by rfl, ?fy1⟩) hHeld ?fr1
  case fy1 => (intro W hSw; (try dsimp only at hSw); go_simp; try with_reducible rfl)
  try simp only [Act.put, List.setIfInBounds_toArray, List.set_cons_zero, List.set_cons_succ]
  refine wpAnyH_take (i := 2) (oi := ⟨some 8, _, _, _, _, _⟩) (v := ?fv2) rfl (by kernel_rfl) (by kernel_rfl) (by kernel_rfl) (fun _ _ _ h => h) (Or.inl ⟨by rfl, ?fy2⟩) hHeld ?fr2
  case fy2 => (intro W hSw; (try dsimp only at hSw); go_simp; try with_reducible rfl)
  try simp only [Act.put, List.setIfInBounds_toArray, List.set_cons_zero, List.set_cons_succ]
  refine wpAnyH_take (i := 3) (oi := ⟨some 9, _, _, _, _, _⟩) (v := ?fv3) rfl (by kernel_rfl) (by kernel_rfl) (by kernel_rfl) (fun _ _ _ h => h) (Or.inl ⟨by rfl, ?fy3⟩) hHeld ?fr3
  case fy3 => (intro W hSw; (try dsimp only at hSw); go_simp; try with_reducible rfl)
  try simp only [Act.put, List.setIfInBounds_toArray, List.set_cons_zero, List.set_cons_succ]
  refine wpAnyH_take (i := 5) (oi := ⟨some 11, _, _, _, _, _⟩) (v := ?fv5) rfl (by kernel_rfl) (by kernel_rfl) (by kernel_rfl) (fun _ _ _ h => h) (Or.inl ⟨by rfl, ?fy5⟩) hHeld ?fr5
  case fy5 => (intro W hSw; (try dsimp only at hSw); go_simp; try with_reducible rfl)
  try simp only [Act.put, List.setIfInBounds_toArray, List.set_cons_zero, List.set_cons_succ]
  refine wpAnyH_take (i := 6) (oi := ⟨some 12, _, _, _, _, _⟩) (v := ?fv6) rfl (by kernel_rfl) (by kernel_rfl) (by kernel_rfl) (fun _ _ _ h => h) (Or.inl ⟨by rfl, ?fy6⟩) hHeld ?fr6
  case fy6 => (intro W hSw; (try dsimp only at hSw); go_simp; try with_reducible rfl)
  try simp only [Act.put, List.setIfInBounds_toArray, List.set_cons_zero, List.set_cons_succ]
  refine wpAnyH_take (i := 7) (oi := ⟨some 13, _, _, _, _, _⟩) (v := ?fv7) rfl (by kernel_rfl) (by kernel_rfl) (by kernel_rfl) (fun _ _ _ h => h) (Or.inl ⟨by rfl, ?fy7⟩) hHeld ?fr7
  case fy7 => (intro W hSw; (try dsimp only at hSw); go_simp; try with_reducible rfl)
  try simp only [Act.put, List.setIfInBounds_toArray, List.set_cons_zero, List.set_cons_succ]
  refine wpAnyH_take (i := 8) (oi := ⟨some 14, _, _, _, _, _⟩) (v := ?fv8) rfl (by kernel_rfl) (by kernel_rfl) (by kernel_rfl) (fun _ _ _ h => h) (Or.inl ⟨by rfl, ?fy8⟩) hHeld ?fr8
  case fy8 => (intro W hSw; (try dsimp only at hSw); go_simp; try with_reducible rfl)
  try simp only [Act.put, List.setIfInBounds_toArray, List.set_cons_zero, List.set_cons_succ]
  refine wpAnyH_ready (rs := [4]) (by kernel_rfl) (by simp) ?_
  refine AllReadyH.cons (o := ⟨some 10, _, _, _, _, _⟩) rfl (fun K hK => ?_) AllReadyH.nil
  go_simp
  go_at_call 47; refine (HD.out _).mono ?_; rintro E wn ⟨rfl, hb⟩
  refine hK.out _ _ (n3_below hb hqx hpx hHeld) (fun hHeld => ?_)
  clear hK K
  try simp only [Act.put, List.setIfInBounds_toArray, List.set_cons_zero, List.set_cons_succ]
  refine wpAnyH_take (i := 9) (oi := ⟨some 15, _, _, _, _, _⟩) (v := ?fv9) rfl (by kernel_rfl) (by kernel_rfl) (by kernel_rfl) (fun _ _ _ h => h) (Or.inl ⟨by rfl, ?fy9⟩) hHeld ?fr9
  case fy9 => (intro W hSw; (try dsimp only at hSw); go_simp; try with_reducible rfl)
  try simp only [Act.put, List.setIfInBounds_toArray, List.set_cons_zero, List.set_cons_succ]
  refine wpAnyH_take (i := 10) (oi := ⟨some 5, _, _, _, _, _⟩) (v := ?fv10) rfl (by kernel_rfl) (by kernel_rfl) (by kernel_rfl) (fun _ _ _ h => h) (Or.inl ⟨by rfl, ?fy10⟩) hHeld ?fr10
  case fy10 => (intro W hSw; (try dsimp only at hSw); go_simp; try with_reducible rfl)
  try simp only [Act.put, List.setIfInBounds_toArray, List.set_cons_zero, List.set_cons_succ]
  refine wpAnyH_done (by kernel_rfl) ?_ _
  have HBn := Lib.hid (HB.out.trans (hHeld.1.mono HB.out.size))
  clear hHeld hs0
  go_wp2
  go_ret
  exact ⟨by first | (rw [HR.out]; done) | (rw [HR.out]; rfl), HBn.out⟩

set_option maxHeartbeats 4000000 in
theorem Fast_any (h lv : Int) (w : World) (hh : 0 ≤ h ∧ h ≤ 400) (hl : 0 ≤ lv ∧ lv ≤ 9) :
    Calls Try.prog 30 #[.int .i64 h, .int .i64 lv] w fun e w' => (e = .returned (.tuple #[.iface 113 (.agg #[.string ⟨#[102, 97, 115, 116]⟩, .int .i64 lv, .func (.func 46) #[] #[.pointer (some ⟨w.heap.size, 0, none⟩)]]), .int .i64 0]) ∧ w'.cell? ⟨w.heap.size, 0, none⟩ = some (.int .i64 h) ∧ w.heap.size < w'.heap.size) ∧ Below w.heap.size w w' := by
  have HW := Lib.hid (fun W => wrong_any lv W)
  rw [show (decide (lv < 0) || decide ((9 : Int) < lv)) = false by simp; omega] at HW
  have t1 : decide (h < 0) = false := decide_eq_false (by omega)
  have t2 : decide ((400 : Int) < h) = false := decide_eq_false (by omega)
  have HO := Lib.hid (fun t f a b W => one_any t lv f a b W)
  clear hh hl
  go_enter Try.func30, Try.ntmps30
  go_wp2_with (first
    | (go_at_call 20; go_loud (refine (HW.out _).mono ?_; rintro E w2 ⟨rfl, rfl⟩))
    | (go_at_call 40; go_loud (refine (HO.out _ _ _ _ _).mono ?_; rintro E w2 ⟨rfl, rfl⟩)))
  go_ret2
  exact ⟨⟨rfl, by simp, by simp⟩, (Below.refl _ w).alloc (Nat.le_refl _) _⟩

set_option maxHeartbeats 4000000 in
theorem Closed_any (lv : Int) (w : World) (hl : 0 ≤ lv ∧ lv ≤ 9) :
    Calls Try.prog 31 #[.int .i64 lv] w fun e w' => e = .returned (.tuple #[.iface 113 (.agg #[.string ⟨#[99, 108, 111, 115, 101, 100]⟩, .int .i64 lv, .func (.func 48) #[] #[]]), .int .i64 0]) ∧ Below w.heap.size w w' := by
  have HW := Lib.hid (fun W => wrong_any lv W)
  rw [show (decide (lv < 0) || decide ((9 : Int) < lv)) = false by simp; omega] at HW
  have HO := Lib.hid (fun t f a b W => one_any t lv f a b W)
  clear hl
  go_enter Try.func31, Try.ntmps31
  go_wp2_with (first
    | (go_at_call 20; go_loud (refine (HW.out _).mono ?_; rintro E w2 ⟨rfl, rfl⟩))
    | (go_at_call 40; go_loud (refine (HO.out _ _ _ _ _).mono ?_; rintro E w2 ⟨rfl, rfl⟩)))
  go_ret2
  exact ⟨rfl, Below.refl _ _⟩

set_option maxHeartbeats 4000000 in
theorem Emergency_any (lv : Int) (w : World) (hl : 0 ≤ lv ∧ lv ≤ 9) :
    Calls Try.prog 32 #[.int .i64 lv] w fun e w' => e = .returned (.tuple #[.iface 113 (.agg #[.string ⟨#[101, 109, 101, 114, 103, 101, 110, 99, 121]⟩, .int .i64 lv, .func (.func 52) #[] #[]]), .int .i64 0]) ∧ Below w.heap.size w w' := by
  have HW := Lib.hid (fun W => wrong_any lv W)
  rw [show (decide (lv < 0) || decide ((9 : Int) < lv)) = false by simp; omega] at HW
  have HO := Lib.hid (fun t f a b W => one_any t lv f a b W)
  clear hl
  go_enter Try.func32, Try.ntmps32
  go_wp2_with (first
    | (go_at_call 20; go_loud (refine (HW.out _).mono ?_; rintro E w2 ⟨rfl, rfl⟩))
    | (go_at_call 40; go_loud (refine (HO.out _ _ _ _ _).mono ?_; rintro E w2 ⟨rfl, rfl⟩)))
  go_ret2
  exact ⟨rfl, Below.refl _ _⟩
end Go.Proofs.Ytdmecagdjbjgjaa
