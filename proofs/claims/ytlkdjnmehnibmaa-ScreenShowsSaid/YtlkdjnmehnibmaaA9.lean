/- Package screen: Line. -/
import Derived.Test.YtlkdjnmehnibmaaA8
namespace Go.Proofs.Ytlkdjnmehnibmaa
open Go.RowKit

theorem cell_info : (Try.prog.info? 27).map (fun i => (i.zero, i.size, i.bytes)) = some (some (.agg #[.int .i64 0, .int .i64 0]), 2, 16) := by kernel_rfl
def lnF (x1 y1 dx dy n : Int) (k : Nat) : Int × Int := (x1 + (2 * (k : Int) * dx + n) / (2 * n), y1 + (2 * (k : Int) * dy + n) / (2 * n))
theorem mul_abs {k d : Int} (h1 : 0 ≤ k) (h2 : k ≤ 4000) (h3 : -4000 ≤ d) (h4 : d ≤ 4000) : -16000000 ≤ k * d ∧ k * d ≤ 16000000 := by
  have e := Int.natAbs_mul k d
  have h : k.natAbs * d.natAbs ≤ 4000 * 4000 := Nat.mul_le_mul (by omega) (by omega)
  omega
theorem own_lit (W : World) (a b : Int) : (W.alloc (.cells #[.int .i64 a, .int .i64 b] 27)).ownsRow W.heap.size 27 2 (.slice (some ⟨W.heap.size, 0, none⟩) 1 1) 1 [.int .i64 a, .int .i64 b] :=
  ⟨rfl, .inr ⟨_, 1, _, rfl, Nat.le_refl _, heap_alloc_new W _, Nat.le_refl _, by decide, rfl, rfl⟩⟩
theorem div_bd {a n : Int} (hn : 1 ≤ n) (h1 : -40000000 ≤ a) (h2 : a ≤ 40000000) : -100000000 ≤ a / (2 * n) ∧ a / (2 * n) ≤ 100000000 := by
  constructor
  · rw [Int.le_ediv_iff_mul_le (by omega)]; omega
  · exact Int.ediv_le_of_le_mul (by omega) (by omega)

set_option maxRecDepth 100000 in
set_option maxHeartbeats 4000000 in
theorem Line_ok (x1 y1 x2 y2 : Int) (N : Nat) (w : World) (h1 : farB x1 y1 = false) (h2 : farB x2 y2 = false) (hN : (N : Int) = lnN (x2 - x1) (y2 - y1)) :
    Calls Try.prog 15 #[.agg #[.int .i64 x1, .int .i64 y1], .agg #[.int .i64 x2, .int .i64 y2]] w fun e w' => ∃ A c, e = .returned (.tuple #[.slice A (N + 1) c, .int .i64 0]) ∧ w'.ownsRow w.heap.size 27 2 (.slice A (N + 1) c) (N + 1) (flatR (ptRow (lnF x1 y1 (x2 - x1) (y2 - y1) N)) (N + 1)) ∧ Below w.heap.size w w' := by
  have b1 := far_in h1
  have b2 := far_in h2
  have B1 := Lib.hid b1
  have F1 := fun W => far_any x1 y1 W
  have F2 := fun W => far_any x2 y2 W
  rw [h1] at F1
  rw [h2] at F2
  have HF1 := Lib.hid F1
  have HF2 := Lib.hid F2
  have d1 : IntKind.i64.wrap (x2 - x1) = x2 - x1 := IntWalk.i64_in _ (by omega)
  have d2 : IntKind.i64.wrap (y2 - y1) = y2 - y1 := IntWalk.i64_in _ (by omega)
  have hdx : -4000 ≤ x2 - x1 ∧ x2 - x1 ≤ 4000 := by omega
  have hdy : -4000 ≤ y2 - y1 ∧ y2 - y1 ≤ 4000 := by omega
  have hn4 : N ≤ 4000 := by unfold lnN at hN; omega
  have hm := fun W ts t => run_max4 (P := Try.prog) W ts t (x2 - x1) (-(x2 - x1)) (y2 - y1) (-(y2 - y1))
  rw [show max (max (max (x2 - x1) (-(x2 - x1))) (y2 - y1)) (-(y2 - y1)) = (N : Int) from hN.symm] at hm
  have d3 : IntKind.i64.wrap (-(x2 - x1)) = -(x2 - x1) := IntWalk.i64_in _ (by omega)
  have d4 : IntKind.i64.wrap (-(y2 - y1)) = -(y2 - y1) := IntWalk.i64_in _ (by omega)
  have tok1 : True := trivial
  have tok2 : True := trivial
  obtain ⟨v, hv⟩ : ∃ v, w.heap.size = v := ⟨_, rfl⟩
  clear F1 F2 h1 h2 hN
  go_enter Try.func15, Try.ntmps15
  go_wp2_with (first
    | (go_at_call 27; have _t := tok1; go_loud ((with_reducible refine (HF1.out _).mono ?_); rintro e w1 ⟨rfl, hb1⟩; obtain ⟨hc1, hf1⟩ := bcell hb1; have hz1 := hb1.size; simp at hz1; have za1 : w.heap.size < w1.heap.size := (by omega); have zb1 : w.heap.size + 1 < w1.heap.size := (by omega); clear tok1))
    | (go_at_call 27; have _t := tok2; go_loud ((with_reducible refine (HF2.out _).mono ?_); rintro e w2 ⟨rfl, hb2⟩; clear tok2)))
  have hz2 := hb2.size
  have hW1 : Below (v + 2) ((w.alloc (.cells #[.int .i64 x1, .int .i64 y1] 27)).alloc (.cells #[.int .i64 x2, .int .i64 y2] 27)) w2 := (hb1.mono (by simp; omega)).trans (hb2.mono (by omega))
  have gA : w2.heap[v]? = some (.cells #[.int .i64 x1, .int .i64 y1] 27 (0, 0)) := (hW1.block v (by omega)).trans ((Below.heap_alloc _ _ v (by simp; omega)).trans (by rw [← hv]; exact heap_alloc_new w _))
  have gB : w2.heap[v + 1]? = some (.cells #[.int .i64 x2, .int .i64 y2] 27 (0, 0)) := (hW1.block (v + 1) (by omega)).trans (by have := heap_alloc_new (w.alloc (.cells #[.int .i64 x1, .int .i64 y1] 27)) (.cells #[.int .i64 x2, .int .i64 y2] 27); simpa [hv] using this)
  have hbw : Below v w w2 := (((Below.refl v w).alloc (by omega) _).alloc (by simp; omega) _).trans (hW1.mono (by omega))
  have c0 : w2.cell? ⟨v, 0, none⟩ = some (.int .i64 x1) := cell_of_row w2 v 0 _ 27 (0, 0) gA
  have c1 : w2.cell? ⟨v, 1, none⟩ = some (.int .i64 y1) := cell_of_row w2 v 1 _ 27 (0, 0) gA
  have c2 : w2.cell? ⟨v + 1, 0, none⟩ = some (.int .i64 x2) := cell_of_row w2 (v + 1) 0 _ 27 (0, 0) gB
  have c3 : w2.cell? ⟨v + 1, 1, none⟩ = some (.int .i64 y2) := cell_of_row w2 (v + 1) 1 _ 27 (0, 0) gB
  have hvl : v + 1 < w2.heap.size := by omega
  have HB := Lib.hid hbw
  clear hb1 hb2 hc1 hf1 hz1 hz2 za1 zb1 hW1 gA gB hbw b1 b2
  go_quiet (fail)
  obtain rfl | hpos : N = 0 ∨ 1 ≤ N := by omega
  · go_wp2
    go_ret2
    rw [hv]
    refine ⟨_, _, rfl, ?_, (below_drewN HB.out _).alloc (by show v ≤ w2.heap.size; omega) _⟩
    have h0 : flatR (ptRow (lnF x1 y1 (x2 - x1) (y2 - y1) (0 : Nat))) (0 + 1) = [.int .i64 x1, .int .i64 y1] := by simp [flatR, ptRow, lnF]
    rw [h0]
    exact own_mono (own_lit _ x1 y1) (by show v ≤ w2.heap.size; omega)
  · have hn0 : ((N : Int) == 0) = false := beq_eq_false_iff_ne.2 (by omega)
    go_wp2
    obtain ⟨i0, J0, J1, J2, J3⟩ := info_parts cell_info
    generalize hxe : x2 - x1 = dx at *
    generalize hye : y2 - y1 = dy at *
    have HX := Lib.hid (And.intro hxe hye)
    clear hxe hye
    have HG := Lib.hid (And.intro c0 c1)
    clear d1 d2 d3 d4 hm c0 c1 c2 c3
    have HD := Lib.hid (And.intro hdx (And.intro hdy (And.intro hn4 hpos)))
    clear hdx hdy
    have hF : ∀ k, ptRow (lnF x1 y1 dx dy N) k = [.int .i64 (x1 + (2 * (k : Int) * dx + N) / (2 * N)), .int .i64 (y1 + (2 * (k : Int) * dy + N) / (2 * N))] := fun k => rfl
    have HF := Lib.hid hF
    clear hF
    go_loopw [9, 10] (fun vv x wr => ∃ k : Nat, k ≤ N + 1 ∧ x = .int .i64 k ∧ wr.ownsRow w2.heap.size 27 2 vv k (flatR (ptRow (lnF x1 y1 dx dy N)) k) ∧ Below w2.heap.size w2 wr) (fun _ x _ => N + 1 - (intOf x).toNat)
    case atStart => exact ⟨0, by omega, rfl, World.ownsRow_nil _ _ _ _, below_drewN (Below.refl _ _) _⟩
    case round =>
      obtain ⟨k, hk, rfl, hown, hbr⟩ := hrel
      obtain ⟨V, cv, rfl⟩ := own_shape hown
      have HOW := Lib.hid hown
      have HBR := Lib.hid hbr
      have hzr := hbr.size
      clear hown
      by_cases hkn : k ≤ N
      · have hk0 : (0 : Int) ≤ (k : Int) := by omega
        have hkn' : (k : Int) ≤ (N : Int) := by omega
        obtain ⟨h1, h2, h3, h4⟩ := HD.out
        have m1 := mul_abs (k := k) (d := dx) hk0 (by omega) h1.1 h1.2
        have m2 := mul_abs (k := k) (d := dy) hk0 (by omega) h2.1 h2.2
        have e1 : 2 * (k : Int) * dx = 2 * ((k : Int) * dx) := Int.mul_assoc _ _ _
        have e2 : 2 * (k : Int) * dy = 2 * ((k : Int) * dy) := Int.mul_assoc _ _ _
        have s0 : IntKind.i64.wrap (2 * (k : Int)) = 2 * (k : Int) := IntWalk.i64_in _ (by omega)
        have s1 : IntKind.i64.wrap (2 * (k : Int) * dx) = 2 * (k : Int) * dx := IntWalk.i64_in _ (by rw [e1]; omega)
        have s2 : IntKind.i64.wrap (2 * (k : Int) * dy) = 2 * (k : Int) * dy := IntWalk.i64_in _ (by rw [e2]; omega)
        have s3 : IntKind.i64.wrap (2 * (k : Int) * dx + N) = 2 * (k : Int) * dx + N := IntWalk.i64_in _ (by rw [e1]; omega)
        have s4 : IntKind.i64.wrap (2 * (k : Int) * dy + N) = 2 * (k : Int) * dy + N := IntWalk.i64_in _ (by rw [e2]; omega)
        have s5 : IntKind.i64.wrap (2 * (N : Int)) = 2 * (N : Int) := IntWalk.i64_in _ (by omega)
        have HD1 := Lib.hid (fun W => DivDown_any (2 * (k : Int) * dx + N) (2 * N) W (by rw [e1]; omega) (by rw [e1]; omega) (by omega) (by omega))
        have HD2 := Lib.hid (fun W => DivDown_any (2 * (k : Int) * dy + N) (2 * N) W (by rw [e2]; omega) (by rw [e2]; omega) (by omega) (by omega))
        have q1 := div_bd (a := 2 * (k : Int) * dx + N) (n := N) (by omega) (by rw [e1]; omega) (by rw [e1]; omega)
        have q2 := div_bd (a := 2 * (k : Int) * dy + N) (n := N) (by omega) (by rw [e2]; omega) (by rw [e2]; omega)
        have hfk := HF.out k
        have hfs := flatR_succ (ptRow (lnF x1 y1 dx dy N)) k
        rw [hfk] at hfs
        generalize (2 * (k : Int) * dx + N) / (2 * N) = r1 at *
        generalize (2 * (k : Int) * dy + N) / (2 * N) = r2 at *
        have HFS := Lib.hid hfs
        obtain ⟨l1, l2, l3, l4⟩ := B1.out
        have s6 : IntKind.i64.wrap (x1 + r1) = x1 + r1 := IntWalk.i64_in _ (by omega)
        have s7 : IntKind.i64.wrap (y1 + r2) = y1 + r2 := IntWalk.i64_in _ (by omega)
        have c0 := (hbr.cell (p := ⟨v, 0, none⟩) (by show v < w2.heap.size; omega)).trans HG.out.1
        have c1 := (hbr.cell (p := ⟨v, 1, none⟩) (by show v < w2.heap.size; omega)).trans HG.out.2
        have tok3 : True := trivial
        have tok4 : True := trivial
        clear l1 l2 l3 l4 hfs hfk m1 m2 e1 e2 q1 q2 h1 h2 h3 h4 hbr
        go_wp2_with (first
          | (go_at_call 28; have _t := tok3; go_loud ((with_reducible refine (HD1.out _).mono ?_); rintro e w5 ⟨rfl, rfl⟩; clear tok3))
          | (go_at_call 28; have _t := tok4; go_loud ((with_reducible refine (HD2.out _).mono ?_); rintro e w5 ⟨rfl, rfl⟩; clear tok4))
          | (at_builtin; go_loud (refine wpList_append_oneN wr wr.heap.size rfl #[.int .i64 (x1 + r1), .int .i64 (y1 + r2)] rfl (.tmp 71) (.tmp 81) 42 rfl w2.heap.size 27 i0 (.agg #[.int .i64 0, .int .i64 0]) 2 16 Try.underlying42 J0 J1 J2 J3 rfl (by decide) (.slice V k cv) k _ rfl HOW.out rfl rfl (by simp [Value.oneCell']) (by omega) (by decide) (by omega) ?_); intro g3 cap3 w6 hv6 hg6 hat6 hlt6))
        go_roundw
        case rel => exact ⟨k + 1, by omega, by go_num, by rw [HFS.out]; exact hv6, below_app HBR.out hzr HOW.out (Nat.le_refl _) hg6⟩
        case measure => simp [intOf]; omega
      · obtain rfl : k = N + 1 := by omega
        go_wp2
        go_ret2
        rw [hv]
        have how := HOW.out
        have how2 := own_mono (base' := v) how (by omega)
        rw [← HX.out.1, ← HX.out.2] at how2
        exact ⟨V, cv, rfl, how2, HB.out.trans (show Below v w2 wr from HBR.out.mono (by omega))⟩

set_option maxRecDepth 100000 in
set_option maxHeartbeats 4000000 in
theorem Line_far (x1 y1 x2 y2 : Int) (w : World) (h : (farB x1 y1 || farB x2 y2) = true) :
    Calls Try.prog 15 #[.agg #[.int .i64 x1, .int .i64 y1], .agg #[.int .i64 x2, .int .i64 y2]] w fun e w' => e = .returned (.tuple #[.slice none 0 0, .int .i64 4]) ∧ Below w.heap.size w w' := by
  have HF1 := Lib.hid (fun W => far_any x1 y1 W)
  have HF2 := Lib.hid (fun W => far_any x2 y2 W)
  cases h1 : farB x1 y1 with
  | true =>
    rw [h1] at HF1
    clear h
    go_enter Try.func15, Try.ntmps15
    go_wp2_with (go_at_call 27; go_loud ((with_reducible refine (HF1.out _).mono ?_); rintro e w1 ⟨rfl, hb1⟩; have hz1 := hb1.size; simp at hz1))
    go_ret2
    exact ⟨rfl, (((Below.refl _ w).alloc (Nat.le_refl _) _).alloc (by simp) _).trans (hb1.mono (by simp; omega))⟩
  | false =>
    have h2 : farB x2 y2 = true := by simpa [h1] using h
    rw [h1] at HF1
    rw [h2] at HF2
    have tok1 : True := trivial
    clear h
    go_enter Try.func15, Try.ntmps15
    go_wp2_with (first
      | (go_at_call 27; have _t := tok1; go_loud ((with_reducible refine (HF1.out _).mono ?_); rintro e w1 ⟨rfl, hb1⟩; obtain ⟨hc1, hf1⟩ := bcell hb1; have hz1 := hb1.size; simp at hz1; have za1 : w.heap.size < w1.heap.size := (by omega); have zb1 : w.heap.size + 1 < w1.heap.size := (by omega); clear tok1))
      | (go_at_call 27; go_loud ((with_reducible refine (HF2.out _).mono ?_); rintro e w2 ⟨rfl, hb2⟩)))
    go_ret2
    exact ⟨rfl, ((((Below.refl _ w).alloc (Nat.le_refl _) _).alloc (by simp) _).trans (hb1.mono (by simp; omega))).trans (hb2.mono (by omega))⟩
end Go.Proofs.Ytlkdjnmehnibmaa
