/- The walk of LabelMeets. -/
import Derived.Test.YtpnihjomemojlaaA1
import Derived.Test.YtpnihjomemojlaaDr
namespace Go.Proofs.Ytpnihjomemojlaa
open Go.RowKit

theorem Meet_is (ax ay aw ah bx bY bw bh : Int) (w : World) (r : Bool) (hr : meetB ax ay aw ah bx bY bw bh = r) (h1 : -1000000 ≤ bx) (h2 : bx ≤ 1000000) (h3 : -1000000 ≤ bw) (h4 : bw ≤ 1000000)
    (k1 : -1000000 ≤ bY) (k2 : bY ≤ 1000000) (k3 : -1000000 ≤ bh) (k4 : bh ≤ 1000000)
    (a1 : -1000000 ≤ ax) (a2 : ax ≤ 1000000) (a3 : -1000000 ≤ aw) (a4 : aw ≤ 1000000)
    (b1 : -1000000 ≤ ay) (b2 : ay ≤ 1000000) (b3 : -1000000 ≤ ah) (b4 : ah ≤ 1000000) :
    Calls Try.prog 8 #[.agg #[.int .i64 ax, .int .i64 ay, .int .i64 aw, .int .i64 ah], .agg #[.int .i64 bx, .int .i64 bY, .int .i64 bw, .int .i64 bh]] w fun e w' => e = .returned (.bool r) ∧ Below w.heap.size w w' := by
  subst hr
  exact Meet_any _ _ _ _ _ _ _ _ w h1 h2 h3 h4 k1 k2 k3 k4 a1 a2 a3 a4 b1 b2 b3 b4

theorem row_step_true {q : Bool} {bx bY bw bh x0 Y X : Int} (h : Hid (true = (q || rowAny bx bY bw bh x0 Y (X - x0).toNat))) (hx : x0 ≤ X) : Hid (true = (q || rowAny bx bY bw bh x0 Y (X + 1 - x0).toNat)) := by
  have e : (X + 1 - x0).toNat = (X - x0).toNat + 1 := by omega
  show _ = _
  rw [e, rowAny_succ, ← Bool.or_assoc, ← h.out, Bool.true_or]

theorem row_step_false {q : Bool} {bx bY bw bh x0 Y X : Int} (h : Hid (false = (q || rowAny bx bY bw bh x0 Y (X - x0).toNat))) (hx : x0 ≤ X) : Hid (inB bx bY bw bh X Y = (q || rowAny bx bY bw bh x0 Y (X + 1 - x0).toNat)) := by
  have e : (X + 1 - x0).toNat = (X - x0).toNat + 1 := by omega
  show _ = _
  rw [e, rowAny_succ, ← Bool.or_assoc, ← h.out, Bool.false_or, show x0 + ((X - x0).toNat : Int) = X by omega]

theorem grid_step {q q' : Bool} {bx bY bw bh x0 y0 Y X m : Int} (h : Hid (q = gridAny bx bY bw bh x0 y0 m.toNat (Y - y0).toNat)) (h' : Hid (q' = (q || rowAny bx bY bw bh x0 Y (X - x0).toNat)))
    (hy : y0 ≤ Y) (hx : X = x0 + m) : Hid (q' = gridAny bx bY bw bh x0 y0 m.toNat (Y + 1 - y0).toNat) := by
  have e : (Y + 1 - y0).toNat = (Y - y0).toNat + 1 := by omega
  show _ = _
  rw [e, gridAny_succ, ← h.out, h'.out, show y0 + ((Y - y0).toNat : Int) = Y by omega, show X - x0 = m by omega]

structure TwoAt (N : Nat) (ax ay aw ah bx bY bw bh : Int) (W : World) : Prop where
  size : N + 2 ≤ W.heap.size
  a : W.heap[N]? = some (.cells #[.int .i64 ax, .int .i64 ay, .int .i64 aw, .int .i64 ah] 23 (0, 0))
  b : W.heap[N + 1]? = some (.cells #[.int .i64 bx, .int .i64 bY, .int .i64 bw, .int .i64 bh] 23 (0, 0))

theorem TwoAt.intro (w : World) (N : Nat) (hN : N = w.heap.size) (ax ay aw ah bx bY bw bh : Int) :
    TwoAt N ax ay aw ah bx bY bw bh (((w.alloc (.cells #[.int .i64 ax, .int .i64 ay, .int .i64 aw, .int .i64 ah] 23)).alloc (.cells #[.int .i64 bx, .int .i64 bY, .int .i64 bw, .int .i64 bh] 23)).drew.drew) := by
  subst hN
  refine ⟨by simp, ?_, ?_⟩
  · show (((w.heap.push _).push _))[_]? = _
    rw [Array.getElem?_push, if_neg (by simp), Array.getElem?_push, if_pos rfl]
  · show (((w.heap.push _).push _))[_]? = _
    rw [Array.getElem?_push, if_pos (by simp)]

theorem TwoAt.below {N : Nat} {ax ay aw ah bx bY bw bh : Int} {W W' : World} (h : TwoAt N ax ay aw ah bx bY bw bh W) (hb : Below W.heap.size W W') : TwoAt N ax ay aw ah bx bY bw bh W' :=
  ⟨Nat.le_trans h.size hb.size, (hb.block _ (by have := h.size; omega)).trans h.a, (hb.block _ (by have := h.size; omega)).trans h.b⟩

theorem TwoAt.cells {N : Nat} {ax ay aw ah bx bY bw bh : Int} {W : World} (h : TwoAt N ax ay aw ah bx bY bw bh W) :
    W.cell? ⟨N, 0, none⟩ = some (.int .i64 ax) ∧ W.cell? ⟨N, 1, none⟩ = some (.int .i64 ay) ∧ W.cell? ⟨N, 2, none⟩ = some (.int .i64 aw) ∧ W.cell? ⟨N, 3, none⟩ = some (.int .i64 ah) ∧
    W.cell? ⟨N + 1, 0, none⟩ = some (.int .i64 bx) ∧ W.cell? ⟨N + 1, 1, none⟩ = some (.int .i64 bY) ∧ W.cell? ⟨N + 1, 2, none⟩ = some (.int .i64 bw) ∧ W.cell? ⟨N + 1, 3, none⟩ = some (.int .i64 bh) := by
  have ha := h.a
  have hb := h.b
  refine ⟨?_, ?_, ?_, ?_, ?_, ?_, ?_, ?_⟩ <;> simp [World.cell?, ha, hb]

set_option maxRecDepth 100000 in
set_option maxHeartbeats 1600000 in
theorem LabelMeets_any (ax ay aw ah bx bY bw bh : Int) (w : World) :
    Calls Try.prog 3 #[.agg #[.int .i64 ax, .int .i64 ay, .int .i64 aw, .int .i64 ah], .agg #[.int .i64 bx, .int .i64 bY, .int .i64 bw, .int .i64 bh]] w fun e w' => e = .returned (.bool true) ∧ Below w.heap.size w w' := by
  have i0 : ∀ (x y : Value) (w : World), (Instr.index 25 (.agg #[x, y]) (.int .i64 0)).run Try.prog w = .ok x w := fun _ _ _ => by kernel_rfl
  have i1 : ∀ (x y : Value) (w : World), (Instr.index 25 (.agg #[x, y]) (.int .i64 1)).run Try.prog w = .ok y w := fun _ _ _ => by kernel_rfl
  go_enter Try.func3, Try.ntmps3
  go_wp2
  refine wp_loop_rounds 3 ?_
  rw [rounds_succ]
  go_wp2
  refine Dr.region (Dr.Ws [((w.alloc (Obj.cells #[Value.int IntKind.i64 ax, Value.int IntKind.i64 ay, Value.int IntKind.i64 aw, Value.int IntKind.i64 ah] 23)).alloc (Obj.cells #[Value.int IntKind.i64 bx, Value.int IntKind.i64 bY, Value.int IntKind.i64 bw, Value.int IntKind.i64 bh] 23)).drew, ((w.alloc (Obj.cells #[Value.int IntKind.i64 (cutI ax (-9) 9), Value.int IntKind.i64 ay, Value.int IntKind.i64 aw, Value.int IntKind.i64 ah] 23)).alloc (Obj.cells #[Value.int IntKind.i64 bx, Value.int IntKind.i64 bY, Value.int IntKind.i64 bw, Value.int IntKind.i64 bh] 23)).drew, ((w.alloc (Obj.cells #[Value.int IntKind.i64 (cutI ax (-9) 9), Value.int IntKind.i64 (cutI ay (-9) 9), Value.int IntKind.i64 aw, Value.int IntKind.i64 ah] 23)).alloc (Obj.cells #[Value.int IntKind.i64 bx, Value.int IntKind.i64 bY, Value.int IntKind.i64 bw, Value.int IntKind.i64 bh] 23)).drew, ((w.alloc (Obj.cells #[Value.int IntKind.i64 (cutI ax (-9) 9), Value.int IntKind.i64 (cutI ay (-9) 9), Value.int IntKind.i64 (cutI aw 1 7), Value.int IntKind.i64 ah] 23)).alloc (Obj.cells #[Value.int IntKind.i64 bx, Value.int IntKind.i64 bY, Value.int IntKind.i64 bw, Value.int IntKind.i64 bh] 23)).drew, ((w.alloc (Obj.cells #[Value.int IntKind.i64 (cutI ax (-9) 9), Value.int IntKind.i64 (cutI ay (-9) 9), Value.int IntKind.i64 (cutI aw 1 7), Value.int IntKind.i64 (cutI ah 1 7)] 23)).alloc (Obj.cells #[Value.int IntKind.i64 bx, Value.int IntKind.i64 bY, Value.int IntKind.i64 bw, Value.int IntKind.i64 bh] 23)).drew]) [26, 29, 32, 35] [(0, 0, false), (0, 1, false), (0, 2, false), (0, 3, false), (0, 0, false), (0, 0, false), (0, 0, false), (0, 0, false), (0, 0, false), (0, 0, false), (0, 0, false), (0, 0, false), (0, 0, false), (0, 0, false), (0, 0, false), (0, 0, false), (0, 0, false), (0, 0, false), (0, 0, false), (0, 0, false), (0, 0, false), (0, 0, false), (0, 0, false), (0, 0, false), (0, 0, false), (0, 0, false), (0, 0, true), (1, 1, false), (1, 1, false), (1, 1, true), (2, 2, false), (2, 2, false), (2, 2, true), (3, 3, false), (3, 3, false), (3, 3, true)] 4 (by kernel_rfl) (by kernel_rfl) (by kernel_rfl) (by kernel_rfl) (by rfl) ?_
  apply Dr.cons
  · intro k hk1 hk2 w' hw K hK; go_simp; exact hK _ hw
  · exact ⟨_, rfl⟩
  apply Dr.cons
  · intro k hk1 hk2 w' hw K hK; go_simp; exact hK _ hw
  · exact ⟨_, rfl⟩
  apply Dr.cons
  · intro k hk1 hk2 w' hw K hK; go_simp; exact hK _ hw
  · exact ⟨_, rfl⟩
  apply Dr.cons
  · intro k hk1 hk2 w' hw K hK; go_simp; exact hK _ hw
  · exact ⟨_, rfl⟩
  apply Dr.cons
  · intro k hk1 hk2 w' hw K hK; go_simp; exact hK _ hw
  · exact ⟨_, rfl⟩
  apply Dr.cons
  · intro k hk1 hk2 w' hw K hK; go_simp; exact hK _ hw
  · exact ⟨_, rfl⟩
  apply Dr.cons
  · intro k hk1 hk2 w' hw K hK; go_simp; exact hK _ hw
  · exact ⟨_, rfl⟩
  apply Dr.cons
  · intro k hk1 hk2 w' hw K hK; obtain rfl : k = 0 := by omega
    obtain rfl : w' = _ := hw
    go_simp; all_goals exact hK _ rfl
  · exact ⟨_, rfl⟩
  apply Dr.cons
  · intro k hk1 hk2 w' hw K hK; obtain rfl : k = 0 := by omega
    obtain rfl : w' = _ := hw
    go_simp; refine (Cut_any _ _ _ _ (by omega) (by omega) (by omega)).mono ?_; rintro e w'' ⟨rfl, rfl⟩; exact hK _ rfl
  · exact ⟨_, rfl⟩
  apply Dr.cons
  · intro k hk1 hk2 w' hw K hK; go_simp; exact hK _ hw
  · exact ⟨_, rfl⟩
  apply Dr.cons
  · intro k hk1 hk2 w' hw K hK; go_simp; exact hK _ hw
  · exact ⟨_, rfl⟩
  apply Dr.cons
  · intro k hk1 hk2 w' hw K hK; go_simp; exact hK _ hw
  · exact ⟨_, rfl⟩
  apply Dr.cons
  · intro k hk1 hk2 w' hw K hK; obtain rfl : k = 0 := by omega
    obtain rfl : w' = _ := hw
    go_simp; all_goals exact hK _ rfl
  · exact ⟨_, rfl⟩
  apply Dr.cons
  · intro k hk1 hk2 w' hw K hK; obtain rfl : k = 0 := by omega
    obtain rfl : w' = _ := hw
    go_simp; refine (Cut_any _ _ _ _ (by omega) (by omega) (by omega)).mono ?_; rintro e w'' ⟨rfl, rfl⟩; exact hK _ rfl
  · exact ⟨_, rfl⟩
  apply Dr.cons
  · intro k hk1 hk2 w' hw K hK; go_simp; exact hK _ hw
  · exact ⟨_, rfl⟩
  apply Dr.cons
  · intro k hk1 hk2 w' hw K hK; go_simp; exact hK _ hw
  · exact ⟨_, rfl⟩
  apply Dr.cons
  · intro k hk1 hk2 w' hw K hK; go_simp; exact hK _ hw
  · exact ⟨_, rfl⟩
  apply Dr.cons
  · intro k hk1 hk2 w' hw K hK; obtain rfl : k = 0 := by omega
    obtain rfl : w' = _ := hw
    go_simp; all_goals exact hK _ rfl
  · exact ⟨_, rfl⟩
  apply Dr.cons
  · intro k hk1 hk2 w' hw K hK; obtain rfl : k = 0 := by omega
    obtain rfl : w' = _ := hw
    go_simp; refine (Cut_any _ _ _ _ (by omega) (by omega) (by omega)).mono ?_; rintro e w'' ⟨rfl, rfl⟩; exact hK _ rfl
  · exact ⟨_, rfl⟩
  apply Dr.cons
  · intro k hk1 hk2 w' hw K hK; go_simp; exact hK _ hw
  · exact ⟨_, rfl⟩
  apply Dr.cons
  · intro k hk1 hk2 w' hw K hK; go_simp; exact hK _ hw
  · exact ⟨_, rfl⟩
  apply Dr.cons
  · intro k hk1 hk2 w' hw K hK; go_simp; exact hK _ hw
  · exact ⟨_, rfl⟩
  apply Dr.cons
  · intro k hk1 hk2 w' hw K hK; obtain rfl : k = 0 := by omega
    obtain rfl : w' = _ := hw
    go_simp; all_goals exact hK _ rfl
  · exact ⟨_, rfl⟩
  apply Dr.cons
  · intro k hk1 hk2 w' hw K hK; obtain rfl : k = 0 := by omega
    obtain rfl : w' = _ := hw
    go_simp; refine (Cut_any _ _ _ _ (by omega) (by omega) (by omega)).mono ?_; rintro e w'' ⟨rfl, rfl⟩; exact hK _ rfl
  · exact ⟨_, rfl⟩
  apply Dr.cons
  · intro k hk1 hk2 w' hw K hK; go_simp; exact hK _ hw
  · exact ⟨_, rfl⟩
  apply Dr.cons
  · intro k hk1 hk2 w' hw K hK; go_simp; exact hK _ hw
  · exact ⟨_, rfl⟩
  apply Dr.cons
  · intro k hk1 hk2 w' hw K hK; obtain rfl : k = 0 := by omega
    obtain rfl : w' = _ := hw
    go_simp; all_goals exact hK _ rfl
  · exact ⟨undef, rfl⟩
  apply Dr.cons
  · intro k hk1 hk2 w' hw K hK; go_simp; exact hK _ hw
  · exact ⟨_, rfl⟩
  apply Dr.cons
  · intro k hk1 hk2 w' hw K hK; go_simp; exact hK _ hw
  · exact ⟨_, rfl⟩
  apply Dr.cons
  · intro k hk1 hk2 w' hw K hK; obtain rfl : k = 1 := by omega
    obtain rfl : w' = _ := hw
    go_simp; all_goals exact hK _ rfl
  · exact ⟨undef, rfl⟩
  apply Dr.cons
  · intro k hk1 hk2 w' hw K hK; go_simp; exact hK _ hw
  · exact ⟨_, rfl⟩
  apply Dr.cons
  · intro k hk1 hk2 w' hw K hK; go_simp; exact hK _ hw
  · exact ⟨_, rfl⟩
  apply Dr.cons
  · intro k hk1 hk2 w' hw K hK; obtain rfl : k = 2 := by omega
    obtain rfl : w' = _ := hw
    go_simp; all_goals exact hK _ rfl
  · exact ⟨undef, rfl⟩
  apply Dr.cons
  · intro k hk1 hk2 w' hw K hK; go_simp; exact hK _ hw
  · exact ⟨_, rfl⟩
  apply Dr.cons
  · intro k hk1 hk2 w' hw K hK; go_simp; exact hK _ hw
  · exact ⟨_, rfl⟩
  apply Dr.cons
  · intro k hk1 hk2 w' hw K hK; obtain rfl : k = 3 := by omega
    obtain rfl : w' = _ := hw
    go_simp; all_goals exact hK _ rfl
  · exact ⟨undef, rfl⟩
  intro w' hw
  obtain rfl : w' = _ := hw
  go_wp2
  rw [rounds_succ]
  go_wp2
  refine Dr.region (Dr.Ws [((w.alloc (Obj.cells #[Value.int IntKind.i64 (cutI ax (-9) 9), Value.int IntKind.i64 (cutI ay (-9) 9), Value.int IntKind.i64 (cutI aw 1 7), Value.int IntKind.i64 (cutI ah 1 7)] 23)).alloc (Obj.cells #[Value.int IntKind.i64 bx, Value.int IntKind.i64 bY, Value.int IntKind.i64 bw, Value.int IntKind.i64 bh] 23)).drew.drew, ((w.alloc (Obj.cells #[Value.int IntKind.i64 (cutI ax (-9) 9), Value.int IntKind.i64 (cutI ay (-9) 9), Value.int IntKind.i64 (cutI aw 1 7), Value.int IntKind.i64 (cutI ah 1 7)] 23)).alloc (Obj.cells #[Value.int IntKind.i64 (cutI bx (-9) 9), Value.int IntKind.i64 bY, Value.int IntKind.i64 bw, Value.int IntKind.i64 bh] 23)).drew.drew, ((w.alloc (Obj.cells #[Value.int IntKind.i64 (cutI ax (-9) 9), Value.int IntKind.i64 (cutI ay (-9) 9), Value.int IntKind.i64 (cutI aw 1 7), Value.int IntKind.i64 (cutI ah 1 7)] 23)).alloc (Obj.cells #[Value.int IntKind.i64 (cutI bx (-9) 9), Value.int IntKind.i64 (cutI bY (-9) 9), Value.int IntKind.i64 bw, Value.int IntKind.i64 bh] 23)).drew.drew, ((w.alloc (Obj.cells #[Value.int IntKind.i64 (cutI ax (-9) 9), Value.int IntKind.i64 (cutI ay (-9) 9), Value.int IntKind.i64 (cutI aw 1 7), Value.int IntKind.i64 (cutI ah 1 7)] 23)).alloc (Obj.cells #[Value.int IntKind.i64 (cutI bx (-9) 9), Value.int IntKind.i64 (cutI bY (-9) 9), Value.int IntKind.i64 (cutI bw 1 7), Value.int IntKind.i64 bh] 23)).drew.drew, ((w.alloc (Obj.cells #[Value.int IntKind.i64 (cutI ax (-9) 9), Value.int IntKind.i64 (cutI ay (-9) 9), Value.int IntKind.i64 (cutI aw 1 7), Value.int IntKind.i64 (cutI ah 1 7)] 23)).alloc (Obj.cells #[Value.int IntKind.i64 (cutI bx (-9) 9), Value.int IntKind.i64 (cutI bY (-9) 9), Value.int IntKind.i64 (cutI bw 1 7), Value.int IntKind.i64 (cutI bh 1 7)] 23)).drew.drew]) [26, 29, 32, 35] [(0, 0, false), (0, 1, false), (0, 2, false), (0, 3, false), (0, 0, false), (0, 0, false), (0, 0, false), (0, 0, false), (0, 0, false), (0, 0, false), (0, 0, false), (0, 0, false), (0, 0, false), (0, 0, false), (0, 0, false), (0, 0, false), (0, 0, false), (0, 0, false), (0, 0, false), (0, 0, false), (0, 0, false), (0, 0, false), (0, 0, false), (0, 0, false), (0, 0, false), (0, 0, false), (0, 0, true), (1, 1, false), (1, 1, false), (1, 1, true), (2, 2, false), (2, 2, false), (2, 2, true), (3, 3, false), (3, 3, false), (3, 3, true)] 4 (by kernel_rfl) (by kernel_rfl) (by kernel_rfl) (by kernel_rfl) (by rfl) ?_
  apply Dr.cons
  · intro k hk1 hk2 w' hw K hK; go_simp; exact hK _ hw
  · exact ⟨_, rfl⟩
  apply Dr.cons
  · intro k hk1 hk2 w' hw K hK; go_simp; exact hK _ hw
  · exact ⟨_, rfl⟩
  apply Dr.cons
  · intro k hk1 hk2 w' hw K hK; go_simp; exact hK _ hw
  · exact ⟨_, rfl⟩
  apply Dr.cons
  · intro k hk1 hk2 w' hw K hK; go_simp; exact hK _ hw
  · exact ⟨_, rfl⟩
  apply Dr.cons
  · intro k hk1 hk2 w' hw K hK; go_simp; exact hK _ hw
  · exact ⟨_, rfl⟩
  apply Dr.cons
  · intro k hk1 hk2 w' hw K hK; go_simp; exact hK _ hw
  · exact ⟨_, rfl⟩
  apply Dr.cons
  · intro k hk1 hk2 w' hw K hK; go_simp; exact hK _ hw
  · exact ⟨_, rfl⟩
  apply Dr.cons
  · intro k hk1 hk2 w' hw K hK; obtain rfl : k = 0 := by omega
    obtain rfl : w' = _ := hw
    go_simp; all_goals exact hK _ rfl
  · exact ⟨_, rfl⟩
  apply Dr.cons
  · intro k hk1 hk2 w' hw K hK; obtain rfl : k = 0 := by omega
    obtain rfl : w' = _ := hw
    go_simp; refine (Cut_any _ _ _ _ (by omega) (by omega) (by omega)).mono ?_; rintro e w'' ⟨rfl, rfl⟩; exact hK _ rfl
  · exact ⟨_, rfl⟩
  apply Dr.cons
  · intro k hk1 hk2 w' hw K hK; go_simp; exact hK _ hw
  · exact ⟨_, rfl⟩
  apply Dr.cons
  · intro k hk1 hk2 w' hw K hK; go_simp; exact hK _ hw
  · exact ⟨_, rfl⟩
  apply Dr.cons
  · intro k hk1 hk2 w' hw K hK; go_simp; exact hK _ hw
  · exact ⟨_, rfl⟩
  apply Dr.cons
  · intro k hk1 hk2 w' hw K hK; obtain rfl : k = 0 := by omega
    obtain rfl : w' = _ := hw
    go_simp; all_goals exact hK _ rfl
  · exact ⟨_, rfl⟩
  apply Dr.cons
  · intro k hk1 hk2 w' hw K hK; obtain rfl : k = 0 := by omega
    obtain rfl : w' = _ := hw
    go_simp; refine (Cut_any _ _ _ _ (by omega) (by omega) (by omega)).mono ?_; rintro e w'' ⟨rfl, rfl⟩; exact hK _ rfl
  · exact ⟨_, rfl⟩
  apply Dr.cons
  · intro k hk1 hk2 w' hw K hK; go_simp; exact hK _ hw
  · exact ⟨_, rfl⟩
  apply Dr.cons
  · intro k hk1 hk2 w' hw K hK; go_simp; exact hK _ hw
  · exact ⟨_, rfl⟩
  apply Dr.cons
  · intro k hk1 hk2 w' hw K hK; go_simp; exact hK _ hw
  · exact ⟨_, rfl⟩
  apply Dr.cons
  · intro k hk1 hk2 w' hw K hK; obtain rfl : k = 0 := by omega
    obtain rfl : w' = _ := hw
    go_simp; all_goals exact hK _ rfl
  · exact ⟨_, rfl⟩
  apply Dr.cons
  · intro k hk1 hk2 w' hw K hK; obtain rfl : k = 0 := by omega
    obtain rfl : w' = _ := hw
    go_simp; refine (Cut_any _ _ _ _ (by omega) (by omega) (by omega)).mono ?_; rintro e w'' ⟨rfl, rfl⟩; exact hK _ rfl
  · exact ⟨_, rfl⟩
  apply Dr.cons
  · intro k hk1 hk2 w' hw K hK; go_simp; exact hK _ hw
  · exact ⟨_, rfl⟩
  apply Dr.cons
  · intro k hk1 hk2 w' hw K hK; go_simp; exact hK _ hw
  · exact ⟨_, rfl⟩
  apply Dr.cons
  · intro k hk1 hk2 w' hw K hK; go_simp; exact hK _ hw
  · exact ⟨_, rfl⟩
  apply Dr.cons
  · intro k hk1 hk2 w' hw K hK; obtain rfl : k = 0 := by omega
    obtain rfl : w' = _ := hw
    go_simp; all_goals exact hK _ rfl
  · exact ⟨_, rfl⟩
  apply Dr.cons
  · intro k hk1 hk2 w' hw K hK; obtain rfl : k = 0 := by omega
    obtain rfl : w' = _ := hw
    go_simp; refine (Cut_any _ _ _ _ (by omega) (by omega) (by omega)).mono ?_; rintro e w'' ⟨rfl, rfl⟩; exact hK _ rfl
  · exact ⟨_, rfl⟩
  apply Dr.cons
  · intro k hk1 hk2 w' hw K hK; go_simp; exact hK _ hw
  · exact ⟨_, rfl⟩
  apply Dr.cons
  · intro k hk1 hk2 w' hw K hK; go_simp; exact hK _ hw
  · exact ⟨_, rfl⟩
  apply Dr.cons
  · intro k hk1 hk2 w' hw K hK; obtain rfl : k = 0 := by omega
    obtain rfl : w' = _ := hw
    go_simp; all_goals exact hK _ rfl
  · exact ⟨undef, rfl⟩
  apply Dr.cons
  · intro k hk1 hk2 w' hw K hK; go_simp; exact hK _ hw
  · exact ⟨_, rfl⟩
  apply Dr.cons
  · intro k hk1 hk2 w' hw K hK; go_simp; exact hK _ hw
  · exact ⟨_, rfl⟩
  apply Dr.cons
  · intro k hk1 hk2 w' hw K hK; obtain rfl : k = 1 := by omega
    obtain rfl : w' = _ := hw
    go_simp; all_goals exact hK _ rfl
  · exact ⟨undef, rfl⟩
  apply Dr.cons
  · intro k hk1 hk2 w' hw K hK; go_simp; exact hK _ hw
  · exact ⟨_, rfl⟩
  apply Dr.cons
  · intro k hk1 hk2 w' hw K hK; go_simp; exact hK _ hw
  · exact ⟨_, rfl⟩
  apply Dr.cons
  · intro k hk1 hk2 w' hw K hK; obtain rfl : k = 2 := by omega
    obtain rfl : w' = _ := hw
    go_simp; all_goals exact hK _ rfl
  · exact ⟨undef, rfl⟩
  apply Dr.cons
  · intro k hk1 hk2 w' hw K hK; go_simp; exact hK _ hw
  · exact ⟨_, rfl⟩
  apply Dr.cons
  · intro k hk1 hk2 w' hw K hK; go_simp; exact hK _ hw
  · exact ⟨_, rfl⟩
  apply Dr.cons
  · intro k hk1 hk2 w' hw K hK; obtain rfl : k = 3 := by omega
    obtain rfl : w' = _ := hw
    go_simp; all_goals exact hK _ rfl
  · exact ⟨undef, rfl⟩
  intro w' hw
  obtain rfl : w' = _ := hw
  go_wp2
  rw [rounds_succ]
  go_wp2
  have b1 := cutI_bd (n := ax) (lo := -9) (hi := 9) (by omega)
  have b2 := cutI_bd (n := ay) (lo := -9) (hi := 9) (by omega)
  have b3 := cutI_bd (n := aw) (lo := 1) (hi := 7) (by omega)
  have b4 := cutI_bd (n := ah) (lo := 1) (hi := 7) (by omega)
  have d1 := cutI_bd (n := bx) (lo := -9) (hi := 9) (by omega)
  have d2 := cutI_bd (n := bY) (lo := -9) (hi := 9) (by omega)
  have d3 := cutI_bd (n := bw) (lo := 1) (hi := 7) (by omega)
  have d4 := cutI_bd (n := bh) (lo := 1) (hi := 7) (by omega)
  clear i0 i1
  go_loopw [7, 8] (fun want y wr => ∃ (Y : Int) (q : Bool), cutI ay (-9) 9 ≤ Y ∧ Y ≤ cutI ay (-9) 9 + cutI ah 1 7 ∧ y = .int .i64 Y ∧ want = .bool q ∧
      Hid (q = gridAny (cutI bx (-9) 9) (cutI bY (-9) 9) (cutI bw 1 7) (cutI bh 1 7) (cutI ax (-9) 9) (cutI ay (-9) 9) (cutI aw 1 7).toNat (Y - cutI ay (-9) 9).toNat) ∧
      TwoAt w.heap.size (cutI ax (-9) 9) (cutI ay (-9) 9) (cutI aw 1 7) (cutI ah 1 7) (cutI bx (-9) 9) (cutI bY (-9) 9) (cutI bw 1 7) (cutI bh 1 7) wr ∧ Below w.heap.size w wr)
    (fun _ y _ => (cutI ay (-9) 9 + cutI ah 1 7 - intOf y).toNat)
  case atStart =>
    refine ⟨cutI ay (-9) 9, false, by omega, by omega, rfl, rfl, ?_, ?_, ?_⟩
    · show false = _
      rw [Int.sub_self]; rfl
    · exact TwoAt.intro _ _ rfl _ _ _ _ _ _ _ _
    · exact ((((Below.refl _ _).alloc (Nat.le_refl _) _).alloc (by simp) _).drew).drew
  case round =>
    obtain ⟨Y, q, hY1, hY2, rfl, rfl, hq, htw, hbel⟩ := hrel
    obtain ⟨wo, rfl⟩ : ∃ wo : World, wo = wr := ⟨_, rfl⟩
    obtain ⟨c1, c2, c3, c4, c5, c6, c7, c8⟩ := htw.cells
    by_cases hlt : Y < cutI ay (-9) 9 + cutI ah 1 7
    · go_wp2
      go_loopw [7, 9] (fun want x wr => ∃ (X : Int) (q' : Bool), cutI ax (-9) 9 ≤ X ∧ X ≤ cutI ax (-9) 9 + cutI aw 1 7 ∧ x = .int .i64 X ∧ want = .bool q' ∧
          Hid (q' = (q || rowAny (cutI bx (-9) 9) (cutI bY (-9) 9) (cutI bw 1 7) (cutI bh 1 7) (cutI ax (-9) 9) Y (X - cutI ax (-9) 9).toNat)) ∧
          TwoAt w.heap.size (cutI ax (-9) 9) (cutI ay (-9) 9) (cutI aw 1 7) (cutI ah 1 7) (cutI bx (-9) 9) (cutI bY (-9) 9) (cutI bw 1 7) (cutI bh 1 7) wr ∧ Below w.heap.size w wr)
        (fun _ x _ => (cutI ax (-9) 9 + cutI aw 1 7 - intOf x).toNat)
      case atStart =>
        refine ⟨cutI ax (-9) 9, q, by omega, by omega, rfl, rfl, ?_, htw, hbel⟩
        show q = _
        rw [Int.sub_self]; simp [rowAny]
      case round =>
        obtain ⟨X, q', hX1, hX2, rfl, rfl, hq', htw', hbel'⟩ := hrel
        clear c1 c2 c3 c4 c5 c6 c7 c8
        obtain ⟨c1, c2, c3, c4, c5, c6, c7, c8⟩ := htw'.cells
        by_cases hxt : X < cutI ax (-9) 9 + cutI aw 1 7
        · cases q' with
          | true =>
            go_wp2
            go_roundw
            case rel => exact ⟨X + 1, true, by omega, by omega, rfl, rfl, row_step_true hq' (by omega), htw', hbel'⟩
            case measure => simp [intOf]; omega
          | false =>
            go_wp2_with (go_at_call 7; refine (Inside_any _ _ _ _ _ _ _ (by omega) (by omega) (by omega) (by omega) (by omega) (by omega) (by omega) (by omega)).mono ?_; rintro e w1 ⟨rfl, hb1⟩)
            go_roundw
            case rel => exact ⟨X + 1, _, by omega, by omega, rfl, rfl, row_step_false hq' (by omega), htw'.below hb1, hbel'.trans (hb1.mono hbel'.size)⟩
            case measure => simp [intOf]; omega
        · go_wp2
          go_roundw
          case rel => exact ⟨Y + 1, q', by omega, by omega, rfl, rfl, grid_step hq hq' (by omega) (by omega), htw', hbel'⟩
          case measure => simp [intOf]; omega
    · have hqm : meetB (cutI ax (-9) 9) (cutI ay (-9) 9) (cutI aw 1 7) (cutI ah 1 7) (cutI bx (-9) 9) (cutI bY (-9) 9) (cutI bw 1 7) (cutI bh 1 7) = q := by
        have hq1 : q = _ := hq
        rw [hq1, ← meet_iff _ _ _ _ _ _ _ _ (by omega) (by omega) (by omega) (by omega)]
        congr 1; omega
      have HQ := Lib.hid hqm
      clear hqm
      go_wp2_with fail
      refine (Meet_is _ _ _ _ _ _ _ _ _ true (by decide) (by omega) (by omega) (by omega) (by omega) (by omega) (by omega) (by omega) (by omega) (by omega) (by omega) (by omega) (by omega) (by omega) (by omega) (by omega) (by omega)).mono ?_
      rintro e w1 ⟨rfl, hb1⟩
      clear c1 c2 c3 c4 c5 c6 c7 c8
      have htw1 := htw.below hb1
      obtain ⟨c1, c2, c3, c4, c5, c6, c7, c8⟩ := htw1.cells
      go_wp2_with fail
      refine (Meet_is _ _ _ _ _ _ _ _ _ q HQ.out (by omega) (by omega) (by omega) (by omega) (by omega) (by omega) (by omega) (by omega) (by omega) (by omega) (by omega) (by omega) (by omega) (by omega) (by omega) (by omega)).mono ?_
      rintro e w2 ⟨rfl, hb2⟩
      clear c1 c2 c3 c4 c5 c6 c7 c8
      have htw2 := htw1.below hb2
      obtain ⟨c1, c2, c3, c4, c5, c6, c7, c8⟩ := htw2.cells
      go_wp2_with fail
      refine (Meet_is _ _ _ _ _ _ _ _ _ q (by rw [meet_comm]; exact HQ.out) (by omega) (by omega) (by omega) (by omega) (by omega) (by omega) (by omega) (by omega) (by omega) (by omega) (by omega) (by omega) (by omega) (by omega) (by omega) (by omega)).mono ?_
      rintro e w3 ⟨rfl, hb3⟩
      go_wp2
      go_ret
      exact ⟨rfl, ((hbel.trans (hb1.mono hbel.size)).trans (hb2.mono (Nat.le_trans hbel.size hb1.size))).trans (hb3.mono (Nat.le_trans hbel.size (Nat.le_trans hb1.size hb2.size)))⟩
end Go.Proofs.Ytpnihjomemojlaa
