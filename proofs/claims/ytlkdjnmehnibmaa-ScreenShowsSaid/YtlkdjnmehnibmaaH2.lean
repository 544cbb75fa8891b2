/- Package screen: Contains of cells; Picture of points alone; Join and Count. -/
import Derived.Test.YtlkdjnmehnibmaaG6
import Derived.Test.YtlkdjnmehnibmaaH1
import Derived.Test.YtlkdjnmehnibmaaShJ
namespace Go.Proofs.Ytlkdjnmehnibmaa
open Go.RowKit Go.Shelf

theorem extra156 : Builder.Extra Try.prog Try.lays156_ren where
  sizeBuilder := by kernel_rfl
  liesBuilder := by kernel_rfl
  t5 := Try.underlying5
  a5 := Try.isAgg5
  z5 := Try.sizeOf5
  v5 := Try.zeroValue5
  infoByte := by kernel_rfl
  cellsByte := by kernel_rfl
  sizeByte := by kernel_rfl
  neB5 := by decide

theorem Join_pic (A : Option Addr) (c wd ht : Nat) (p : Nat → Int × Int) (n : Nat) (w : World) (hA : Sl w w.heap.size 1 A ht (fun k => [.string (rowStr wd (fP p n (ht - 1 - k)))])) (hc : ht ≤ c) (h1 : 1 ≤ ht) (h2 : ht ≤ 60) (h3 : wd ≤ 60) :
    Calls Try.prog 19 #[.slice A ht c, .string ⟨#[]⟩] w fun e w' => e = .returned (.string ⟨(Lib.join ((rowsP wd ht p n).map (·.data.toList)) []).toArray⟩) ∧ Below w.heap.size w w' := by
  obtain ⟨b, off, rfl, hb, hr⟩ := hA.one (by omega)
  have hl : (rowsP wd ht p n).length = ht := by unfold rowsP; simp
  have hlen : (Lib.join ((rowsP wd ht p n).map (·.data.toList)) []).length ≤ 140737488355328 := by
    rw [len_pic]
    exact Nat.le_trans (Nat.mul_le_mul h3 h2) (by decide)
  have h := Any.strings_Join Try.lays156 extra156 b off c (rowsP wd ht p n) ⟨#[]⟩ w (fun j x hj => by
    have hjl : j < ht := by rw [← hl]; exact (List.getElem?_eq_some_iff.1 hj).1
    have e : x = rowStr wd (fP p n (ht - 1 - j)) := by
      unfold rowsP at hj
      rw [List.getElem?_map, List.getElem?_range hjl] at hj
      simpa using hj.symm
    rw [e]
    exact hr j hjl) hb (by rw [hl]; omega) (by rw [hl]; exact hc) hlen
  rw [hl] at h
  exact h
theorem Count_o (s : ByteArray) (w : World) : Calls Try.prog 20 #[.string s, .string ⟨#[111]⟩] w fun e w' => e = .returned (.int .i64 (Lib.countByte s.data.toList 111)) ∧ w' = w :=
  Any.strings_Count_one Try.lays138 s 111 w

set_option maxRecDepth 100000 in
set_option maxHeartbeats 2000000 in
theorem Index_cells (A : Option Addr) (a : Nat → Int × Int) (n c : Nat) (x y : Int) (w : World) (hA : Sl w w.heap.size 2 A n (ptRow a)) (hn : n ≤ 1000) :
    Calls Try.prog 29 #[.slice A n c, .agg #[.int .i64 x, .int .i64 y]] w fun e w' => (∃ r : Int, e = .returned (.int .i64 r) ∧ (0 ≤ r ↔ ∃ i, i < n ∧ a i = (x, y))) ∧ Below w.heap.size w w' := by
  obtain ⟨W0, hW0, g0, hb0⟩ : ∃ W0, w.alloc (.cells #[.int .i64 x, .int .i64 y] 27) = W0 ∧ W0.heap[w.heap.size]? = some (.cells #[.int .i64 x, .int .i64 y] 27 (0, 0)) ∧ Below w.heap.size w W0 := ⟨_, rfl, heap_alloc_new w _, (Below.refl _ w).alloc (Nat.le_refl _) _⟩
  have HA := Lib.hid (hA.below hb0)
  have HB0 := Lib.hid hb0
  have e1 := cell_of_row W0 w.heap.size 0 _ 27 (0, 0) g0
  have e2 := cell_of_row W0 w.heap.size 1 _ 27 (0, 0) g0
  clear hA hb0 g0
  go_enter Try.func29, Try.ntmps29
  go_wp2
  generalize hWX : World.alloc _ _ = WX
  obtain rfl : WX = W0 := by rw [← hWX, ← hW0]
  clear hWX hW0
  go_loopw [8] (fun k wr => ∃ j : Nat, j ≤ n ∧ k = .int .i64 j ∧ Hid (∀ i, i < j → a i ≠ (x, y)) ∧ ∃ q, wr = WX.drewN q) (fun k _ => n - (intOf k).toNat)
  case atStart => exact ⟨0, by omega, rfl, Lib.hid (fun i hi => absurd hi (by omega)), 0, rfl⟩
  case round =>
    obtain ⟨j, hj, rfl, HN, q, rfl⟩ := hrel
    by_cases hlt : j < n
    · obtain ⟨b, off, rfl, hb, hc⟩ := pt_cells HA.out (by omega)
      obtain ⟨c1, c2⟩ := hc j hlt
      have HE : Hid (a j = ((a j).1, (a j).2)) := Lib.hid rfl
      clear hc
      generalize (a j).1 = x1 at *
      generalize (a j).2 = y1 at *
      have l1 : (j : Int) < (n : Int) := by omega
      have l0 : (0 : Int) ≤ (j : Int) := by omega
      have hbn : b ≠ w.heap.size := by omega
      by_cases hx : x = x1
      · by_cases hy : y = y1
        · have t1 : (x == x1) = true := by simpa using hx
          have t2 : (y == y1) = true := by simpa using hy
          have HX := Lib.hid (And.intro hx hy)
          clear hx hy
          go_wp2
          go_quiet (fail)
          go_wp2
          go_ret
          refine ⟨⟨_, rfl, ?_⟩, below_drewN (below_drewN HB0.out _) _⟩
          exact ⟨fun _ => ⟨j, hlt, by rw [HE.out, ← HX.out.1, ← HX.out.2]⟩, fun _ => by omega⟩
        · have t1 : (x == x1) = true := by simpa using hx
          have t2 : (y == y1) = false := by simpa using hy
          have HX := Lib.hid hy
          clear hx hy
          go_wp2
          go_quiet (fail)
          go_wp2
          go_roundw
          case rel => exact ⟨j + 1, by omega, by go_num, hid_step (P := fun i => a i ≠ (x, y)) HN (by rw [HE.out]; exact fun h => HX.out (Prod.mk.inj h).2.symm), _, rfl⟩
          case measure => simp [intOf]; omega
      · have t1 : (x == x1) = false := by simpa using hx
        have HX := Lib.hid hx
        clear hx
        go_wp2
        go_quiet (fail)
        go_wp2
        go_roundw
        case rel => exact ⟨j + 1, by omega, by go_num, hid_step (P := fun i => a i ≠ (x, y)) HN (by rw [HE.out]; exact fun h => HX.out (Prod.mk.inj h).1.symm), _, rfl⟩
        case measure => simp [intOf]; omega
    · obtain rfl : n = j := by omega
      go_wp2
      go_ret
      refine ⟨⟨_, rfl, ?_⟩, below_drewN HB0.out _⟩
      exact ⟨fun h => absurd h (by decide), fun ⟨i, hi, e⟩ => absurd e (HN.out i hi)⟩

set_option maxRecDepth 100000 in
set_option maxHeartbeats 2000000 in
theorem Contains_cells (A : Option Addr) (a : Nat → Int × Int) (n c : Nat) (x y : Int) (r : Bool) (w : World) (hA : Sl w w.heap.size 2 A n (ptRow a)) (hn : n ≤ 1000) (hr : r = true ↔ ∃ i, i < n ∧ a i = (x, y)) :
    Calls Try.prog 18 #[.slice A n c, .agg #[.int .i64 x, .int .i64 y]] w fun e w' => e = .returned (.bool r) ∧ Below w.heap.size w w' := by
  have hb1 : Below w.heap.size w (w.alloc (.cells #[.int .i64 x, .int .i64 y] 27)) := (Below.refl _ w).alloc (Nat.le_refl _) _
  have HC := Lib.hid (Index_cells A a n c x y (w.alloc (.cells #[.int .i64 x, .int .i64 y] 27)) ((hA.below hb1).more hb1.size) hn)
  have HR := Lib.hid hr
  have HB := Lib.hid hb1
  clear hA hr hb1
  go_enter Try.func18, Try.ntmps18
  go_wp2_with (go_at_call 29; go_loud (refine HC.out.mono ?_; rintro e w1 ⟨⟨i, rfl, hi⟩, hb1⟩; have HI := Lib.hid hi; clear hi))
  go_ret
  refine ⟨?_, HB.out.trans (hb1.mono (by simp))⟩
  have h := HI.out.trans HR.out.symm
  have h2 : decide (0 ≤ i) = r := by rw [Bool.eq_iff_iff, decide_eq_true_eq]; exact h
  rw [← h2]
  rfl

/-- Check of a view and points, some point being bad. -/
theorem check_badpt (cx cy sc wd ht : Int) (A : Option Addr) (n c k : Nat) (f : Nat → Int × Int) (w : World) (hv : viewE cx cy sc wd ht = 0) (hA : Sl w w.heap.size 2 A n (ptRow f)) (hn : n ≤ 32) (hk : k < n) (hf : ∀ i, i < k → ptE (f i).1 (f i).2 = 0) (hk4 : ptE (f k).1 (f k).2 = 4) :
    Calls Try.prog 25 #[.agg #[.int .i64 cx, .int .i64 cy, .int .i64 sc, .int .i64 wd, .int .i64 ht], .slice none 0 0, .slice A n c] w fun e w' => e = .returned (.int .i64 4) ∧ Below w.heap.size w w' := by
  have HC := Lib.hid (fun (W : World) => Check_any cx cy sc wd ht W)
  rw [hv] at HC
  have HA := Lib.hid hA
  have HF := Lib.hid hf
  have HK := Lib.hid hk4
  have n0 : (0 : Int) ≤ (n : Int) := by omega
  have n32 : decide ((32 : Int) < (n : Int)) = false := decide_eq_false (by omega)
  clear hv hA hf hk4
  go_enter Try.func25, Try.ntmps25
  go_wp2_with (go_at_call 21; go_loud (refine (HC.out _).mono ?_; rintro e w1 ⟨rfl, hb1⟩; have hz1 := hb1.size; simp at hz1; have HB1 := Lib.hid (((Below.refl _ w).alloc (Nat.le_refl _) _).trans (hb1.mono (by simp))); clear hb1))
  go_loop [31] (fun x => x = .int .i64 (0 : Nat)) (fun _ => 0)
  case atStart => rfl
  case round =>
    obtain rfl := hrel
    go_wp2
    go_loopw [53] (fun x wr => ∃ j : Nat, j ≤ k ∧ x = .int .i64 j ∧ Hid (Below w.heap.size w wr)) (fun x _ => n - (intOf x).toNat)
    case atStart => exact ⟨0, by omega, rfl, HB1⟩
    case round =>
      obtain ⟨j, hj, rfl, HBW⟩ := hrel
      obtain ⟨b, off, rfl, hbl, hr⟩ := pt_cells HA.out (by omega)
      obtain ⟨r0, r1⟩ := hr j (by omega)
      have o0 := (HBW.out.cell (p := ⟨b, off + j * 2, none⟩) hbl).trans r0
      have o1 := (HBW.out.cell (p := ⟨b, off + j * 2 + 1, none⟩) hbl).trans r1
      have hz := HBW.out.size
      have hbwr : b < wr.heap.size := by omega
      have hj0 : (0 : Int) ≤ (j : Int) := by omega
      have hjn : (j : Int) < (n : Int) := by omega
      by_cases hlt : j < k
      · have hp := HF.out j hlt
        generalize (f j).1 = x at *
        generalize (f j).2 = y at *
        have HP := Lib.hid (fun W => PCheck_any x y W)
        rw [hp] at HP
        clear hr r0 r1 hp
        go_wp2_with (go_at_call 22; go_loud (refine (HP.out _).mono ?_; rintro e w2 ⟨rfl, hb2⟩))
        go_roundw
        case rel => exact ⟨j + 1, by omega, by go_num, HBW.out.trans (((Below.refl _ wr).alloc (Nat.le_refl _) _ |>.trans (hb2.mono (by simp))).mono hz)⟩
        case measure => simp [intOf]; omega
      · obtain rfl : k = j := by omega
        have hp := HK.out
        generalize (f k).1 = x at *
        generalize (f k).2 = y at *
        have HP := Lib.hid (fun W => PCheck_any x y W)
        rw [hp] at HP
        clear hr r0 r1 hp HK
        go_wp2_with (go_at_call 22; go_loud (refine (HP.out _).mono ?_; rintro e w2 ⟨rfl, hb2⟩))
        go_ret
        exact ⟨rfl, HBW.out.trans (((Below.refl _ wr).alloc (Nat.le_refl _) _ |>.trans (hb2.mono (by simp))).mono hz)⟩
end Go.Proofs.Ytlkdjnmehnibmaa
