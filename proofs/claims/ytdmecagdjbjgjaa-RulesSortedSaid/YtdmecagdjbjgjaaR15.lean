/- rules.Check: what it answers, as a function of the scene. -/
import Derived.Test.YtdmecagdjbjgjaaR14
import Derived.Test.YtdmecagdjbjgjaaR7
namespace Go.Proofs.Ytdmecagdjbjgjaa
open Go.RowKit

/-- The first answer other than 0. -/
def firstE (f : Nat → Int) : Nat → Int
  | 0 => 0
  | k + 1 => if firstE f k ≠ 0 then firstE f k else f k
theorem firstE_stop {f : Nat → Int} {k n : Nat} (h0 : firstE f k = 0) (hk : f k ≠ 0) (hn : k < n) : firstE f n = f k := by
  induction n with
  | zero => omega
  | succ n ih =>
    rcases Nat.lt_or_ge k n with h | h
    · have := ih h
      show (if firstE f n ≠ 0 then firstE f n else f n) = f k
      rw [if_pos (by rw [this]; exact hk), this]
    · obtain rfl : k = n := by omega
      show (if firstE f k ≠ 0 then firstE f k else f k) = f k
      rw [if_neg (by simp [h0])]
theorem firstE_next {f : Nat → Int} {k : Nat} (h0 : firstE f k = 0) (hk : f k = 0) : firstE f (k + 1) = 0 := by
  show (if firstE f k ≠ 0 then firstE f k else f k) = 0
  rw [if_neg (by simp [h0]), hk]
theorem firstE_zero {f : Nat → Int} : ∀ {n : Nat}, firstE f n = 0 → ∀ i, i < n → f i = 0 := by
  intro n
  induction n with
  | zero => intro _ i hi; omega
  | succ n ih =>
    intro h i hi
    have h' : (if firstE f n ≠ 0 then firstE f n else f n) = 0 := h
    by_cases hz : firstE f n = 0
    · rw [if_neg (by simp [hz])] at h'
      rcases Nat.lt_or_ge i n with h2 | h2
      · exact ih hz i h2
      · obtain rfl : i = n := by omega
        exact h'
    · rw [if_pos hz] at h'
      exact absurd h' hz

/-- A closed volume: its polygon, its heights. -/
structure Vo where
  A : Option Addr
  n : Nat
  c : Nat
  F : Nat → Int × Int
  lo : Int
  hi : Int
deriving Inhabited
def voL (v : Vo) : List Value := [.slice v.A v.n v.c, .int .i64 v.lo, .int .i64 v.hi]
def BadT (t : Tr) : Prop := t.h < 0 ∨ 60000 < t.h ∨ t.u < -12800 ∨ 12800 < t.u ∨ t.v < -12800 ∨ 12800 < t.v ∨ t.cd < -1 ∨ 4095 < t.cd
instance (t : Tr) : Decidable (BadT t) := by unfold BadT; infer_instance
def tkE (T : Nat → Tr) (i : Nat) : Int := if ptE (T i).x (T i).y ≠ 0 then ptE (T i).x (T i).y else if BadT (T i) then 4 else if dupB T i (T i).id = true then 7 else 0
def voE (V : Nat → Vo) (i : Nat) : Int := volE (V i).F (V i).n (V i).lo (V i).hi

/-- A scene. -/
structure Sc where
  tm : Int
  A : Option Addr
  n : Nat
  c : Nat
  B : Option Addr
  m : Nat
  d : Nat
  T : Nat → Tr
  V : Nat → Vo
def Sc.val (s : Sc) : Value := .agg #[.int .i64 s.tm, .slice s.A s.n s.c, .slice s.B s.m s.d]
def Sc.at_ (s : Sc) (w : World) (N : Nat) : Prop := s.n ≤ s.c ∧ Sl w N 13 s.A s.n (fun i => trL (s.T i)) ∧ Sl w N 3 s.B s.m (fun i => voL (s.V i)) ∧ ∀ i, i < s.m → Sl w N 2 (s.V i).A (s.V i).n (ptRow (s.V i).F)
theorem Sc.at_.below {s : Sc} {w w' : World} {N : Nat} (h : s.at_ w N) (hb : Below N w w') : s.at_ w' N := ⟨h.1, h.2.1.below hb, h.2.2.1.below hb, fun i hi => (h.2.2.2 i hi).below hb⟩
theorem Sc.at_.more {s : Sc} {w : World} {N M : Nat} (h : s.at_ w N) (hb : N ≤ M) : s.at_ w M := ⟨h.1, h.2.1.more hb, h.2.2.1.more hb, fun i hi => (h.2.2.2 i hi).more hb⟩
theorem Sc.at_.step {s : Sc} {w w' : World} (h : s.at_ w w.heap.size) (hb : Below w.heap.size w w') : s.at_ w' w'.heap.size := (h.below hb).more hb.size
def checkE (s : Sc) : Int := if 32 < s.n ∨ 12 < s.m then 2 else if s.tm < 0 ∨ 200000 < s.tm then 12 else if firstE (tkE s.T) s.n ≠ 0 then firstE (tkE s.T) s.n else firstE (voE s.V) s.m

set_option maxRecDepth 100000 in
set_option maxHeartbeats 8000000 in
theorem Check_any (s : Sc) (w : World) (hS : s.at_ w w.heap.size) : Calls Try.prog 10 #[s.val] w fun E w' => E = .returned (.int .i64 (checkE s)) ∧ Below w.heap.size w w' := by
  have HR : Hid (checkE s = if 32 < s.n ∨ 12 < s.m then 2 else if s.tm < 0 ∨ 200000 < s.tm then 12 else if firstE (tkE s.T) s.n ≠ 0 then firstE (tkE s.T) s.n else firstE (voE s.V) s.m) := Lib.hid rfl
  generalize checkE s = r at *
  unfold Sc.val
  obtain ⟨tm, A, n, c, B, m, d, T, V⟩ := s
  dsimp only at *
  have hnc := hS.1
  have HT := Lib.hid hS.2.1
  have HV := Lib.hid hS.2.2.1
  have HVP := Lib.hid hS.2.2.2
  dsimp only at hnc HT HV HVP
  clear hS
  obtain ⟨w1, hw1⟩ : ∃ W, w.alloc (.cells #[.int .i64 tm, .slice A n c, .slice B m d] 25) = W := ⟨_, rfl⟩
  have hb1 : Below w.heap.size w w1 := by rw [← hw1]; exact (Below.refl _ _).alloc (Nat.le_refl _) _
  have hy : w1.heap[w.heap.size]? = some (.cells #[.int .i64 tm, .slice A n c, .slice B m d] 25 (0, 0)) := by rw [← hw1]; exact heap_alloc_new _ _
  have hl : w.heap.size < w1.heap.size := by rw [← hw1]; simp
  have c0 : w1.cell? ⟨w.heap.size, 0, none⟩ = some (.int .i64 tm) := cell_of_row w1 _ 0 _ 25 (0, 0) hy
  have c1 : w1.cell? ⟨w.heap.size, 1, none⟩ = some (.slice A n c) := cell_of_row w1 _ 1 _ 25 (0, 0) hy
  have c2 : w1.cell? ⟨w.heap.size, 2, none⟩ = some (.slice B m d) := cell_of_row w1 _ 2 _ 25 (0, 0) hy
  have HB1 := Lib.hid hb1
  have HY := Lib.hid hy
  clear hb1 hy
  obtain ⟨g, hg⟩ : ∃ g, w.heap.size = g := ⟨_, rfl⟩
  have HG := Lib.hid hg
  rw [hg] at c0 c1 c2 hl HY
  by_cases hL : 32 < n ∨ 12 < m
  · rw [if_pos hL] at HR
    clear HT HV HVP
    go_enter Try.func10, Try.ntmps10
    go_wp2
    all_goals first
      | (exfalso; omega)
      | (go_ret; exact ⟨by first | (rw [HR.out]; done) | (rw [HR.out]; rfl), by first | exact HB1.out | (rw [← HG.out]; exact HB1.out)⟩)
  rw [if_neg hL] at HR
  have hn : n ≤ 32 := by omega
  have hm : m ≤ 12 := by omega
  clear hL
  have n1 : decide ((32 : Int) < (n : Int)) = false := decide_eq_false (by omega)
  have n2 : decide ((12 : Int) < (m : Int)) = false := decide_eq_false (by omega)
  by_cases hL : tm < 0 ∨ 200000 < tm
  · rw [if_pos hL] at HR
    clear HT HV HVP
    go_enter Try.func10, Try.ntmps10
    go_wp2
    all_goals first
      | (exfalso; omega)
      | (go_ret; exact ⟨by first | (rw [HR.out]; done) | (rw [HR.out]; rfl), by first | exact HB1.out | (rw [← HG.out]; exact HB1.out)⟩)
  rw [if_neg hL] at HR
  have t1 : decide (tm < 0) = false := decide_eq_false (by omega)
  have t2 : decide ((200000 : Int) < tm) = false := decide_eq_false (by omega)
  clear hL
  have hn0 : (0 : Int) ≤ (n : Int) := by omega
  have hm0 : (0 : Int) ≤ (m : Int) := by omega
  go_enter Try.func10, Try.ntmps10
  go_wp2
  go_loopw [32] (fun i wr => ∃ j : Nat, j ≤ n ∧ i = .int .i64 (j : Int) ∧ Hid (firstE (tkE T) j = 0) ∧ Hid (Below w1.heap.size w1 wr)) (fun i _ => n - (intOf i).toNat)
  case atStart => exact ⟨0, by omega, rfl, Lib.hid rfl, Lib.hid (Below.refl _ _)⟩
  case round =>
    obtain ⟨j, hj, rfl, HF, HBr⟩ := hrel
    have hzr := HBr.out.size
    by_cases hlt : j < n
    · obtain ⟨bb, off, rfl, hbb, hr⟩ := HT.out (by omega)
      have hbb1 : bb < w1.heap.size := Nat.lt_of_lt_of_le hbb HB1.out.size
      have hbbr : bb < wr.heap.size := Nat.lt_of_lt_of_le hbb1 hzr
      have hcs : ∀ q v, (trL (T j))[q]? = some v → wr.cell? ⟨bb, off + j * 13 + q, none⟩ = some v := fun q v hv => (HBr.out.cell (p := ⟨bb, off + j * 13 + q, none⟩) hbb1).trans ((HB1.out.cell (p := ⟨bb, off + j * 13 + q, none⟩) hbb).trans (hr j hlt q v hv))
      have HSl := Lib.hid (((((HT.out.less (m := j) (by omega)).below HB1.out).more HB1.out.size).below HBr.out).more hzr)
      have HE : Hid (tkE T j = if ptE (T j).x (T j).y ≠ 0 then ptE (T j).x (T j).y else if BadT (T j) then 4 else if dupB T j (T j).id = true then 7 else 0) := Lib.hid rfl
      have HD := Lib.hid (fun W hs hB hg => tracks_any (some ⟨bb, off, none⟩) j c T (T j) wr.heap.size W hs (by omega) hB hg)
      obtain ⟨t, ht⟩ : ∃ t, T j = t := ⟨_, rfl⟩
      rw [ht] at hcs HE HD
      clear hr ht
      generalize dupB T j t.id = dup at *
      have HEn := Lib.hid (fun h => firstE_next HF.out (show tkE T j = 0 from h))
      have HEs := Lib.hid (fun h => firstE_stop HF.out (show tkE T j ≠ 0 from h) hlt)
      generalize tkE T j = tke at *
      obtain ⟨z0, z1, z2, z3, z4, z5, z6, z7, z8, z9, z10, z11, z12⟩ := t
      have d0 : wr.cell? ⟨bb, off + j * 13, none⟩ = some (.int .i64 z0) := hcs 0 _ rfl
      have d1 : wr.cell? ⟨bb, off + j * 13 + 1, none⟩ = some (.int .i64 z1) := hcs 1 _ rfl
      have d2 : wr.cell? ⟨bb, off + j * 13 + 2, none⟩ = some (.int .i64 z2) := hcs 2 _ rfl
      have d3 : wr.cell? ⟨bb, off + j * 13 + 3, none⟩ = some (.int .i64 z3) := hcs 3 _ rfl
      have d4 : wr.cell? ⟨bb, off + j * 13 + 4, none⟩ = some (.int .i64 z4) := hcs 4 _ rfl
      have d5 : wr.cell? ⟨bb, off + j * 13 + 5, none⟩ = some (.int .i64 z5) := hcs 5 _ rfl
      have d6 : wr.cell? ⟨bb, off + j * 13 + 6, none⟩ = some (.int .i64 z6) := hcs 6 _ rfl
      have d7 : wr.cell? ⟨bb, off + j * 13 + 7, none⟩ = some (.int .i64 z7) := hcs 7 _ rfl
      have d8 : wr.cell? ⟨bb, off + j * 13 + 8, none⟩ = some (.int .i64 z8) := hcs 8 _ rfl
      have d9 : wr.cell? ⟨bb, off + j * 13 + 9, none⟩ = some (.int .i64 z9) := hcs 9 _ rfl
      have d10 : wr.cell? ⟨bb, off + j * 13 + 10, none⟩ = some (.int .i64 z10) := hcs 10 _ rfl
      have d11 : wr.cell? ⟨bb, off + j * 13 + 11, none⟩ = some (.int .i64 z11) := hcs 11 _ rfl
      have d12 : wr.cell? ⟨bb, off + j * 13 + 12, none⟩ = some (.int .i64 z12) := hcs 12 _ rfl
      clear hcs
      dsimp only at HE HD
      have l1 : (j : Int) < (n : Int) := by omega
      have l0 : (0 : Int) ≤ (j : Int) := by omega
      have hwj : IntKind.i64.wrap ((j : Int) + 1) = (j : Int) + 1 := IntWalk.i64_in _ (by omega)
      obtain ⟨wv, hwv⟩ : ∃ W, wr.alloc (.cells #[.int .i64 z0, .int .i64 z1, .int .i64 z2, .int .i64 z3, .int .i64 z4, .int .i64 z5, .int .i64 z6, .int .i64 z7, .int .i64 z8, .int .i64 z9, .int .i64 z10, .int .i64 z11, .int .i64 z12] 41) = W := ⟨_, rfl⟩
      have hbv : Below wr.heap.size wr wv := by rw [← hwv]; exact (Below.refl _ _).alloc (Nat.le_refl _) _
      have hyv : wv.heap[wr.heap.size]? = some (.cells #[.int .i64 z0, .int .i64 z1, .int .i64 z2, .int .i64 z3, .int .i64 z4, .int .i64 z5, .int .i64 z6, .int .i64 z7, .int .i64 z8, .int .i64 z9, .int .i64 z10, .int .i64 z11, .int .i64 z12] 41 (0, 0)) := by rw [← hwv]; exact heap_alloc_new _ _
      have hlv : wr.heap.size < wv.heap.size := by rw [← hwv]; simp
      have hlg : g < wr.heap.size := Nat.lt_of_lt_of_le hl hzr
      have HBv := Lib.hid (HBr.out.trans (hbv.mono hzr))
      have HYv := Lib.hid hyv
      have HSv := Lib.hid ((HSl.out.below hbv).more hbv.size)
      have HP := Lib.hid (fun W => PCheck_any z3 z4 W)
      clear hyv hbv HSl
      obtain ⟨h, hh⟩ : ∃ h, wr.heap.size = h := ⟨_, rfl⟩
      have HH := Lib.hid hh
      rw [hh] at HYv hlv hlg HD
      have v3 : wv.cell? ⟨h, 3, none⟩ = some (.int .i64 z3) := cell_of_row wv _ 3 _ 41 (0, 0) HYv.out
      have v4 : wv.cell? ⟨h, 4, none⟩ = some (.int .i64 z4) := cell_of_row wv _ 4 _ 41 (0, 0) HYv.out
      generalize ptE z3 z4 = pe at *
      by_cases hp : pe = 0
      · subst hp
        rw [if_neg (by simp)] at HE
        by_cases hbad' : BadT ⟨z0, z1, z2, z3, z4, z5, z6, z7, z8, z9, z10, z11, z12⟩
        · rw [if_pos hbad'] at HE
          have hbad : z7 < 0 ∨ 60000 < z7 ∨ z5 < -12800 ∨ 12800 < z5 ∨ z6 < -12800 ∨ 12800 < z6 ∨ z10 < -1 ∨ 4095 < z10 := hbad'
          clear hbad'
          have HR2 : Hid (r = 4) := Lib.hid (by rw [HR.out, HEs.out (by rw [HE.out]; decide), HE.out]; rfl)
          clear HR HE HEs HEn HD HV HVP
          go_wp2_with (go_at_call 23; go_loud (refine (HP.out _).mono ?_; rintro E w2 ⟨rfl, hb2⟩; have y2 := (hb2.block h hlv).trans HYv.out; have e5 : w2.cell? ⟨h, 5, none⟩ = some (.int .i64 z5) := cell_of_row w2 _ 5 _ 41 (0, 0) y2; have e6 : w2.cell? ⟨h, 6, none⟩ = some (.int .i64 z6) := cell_of_row w2 _ 6 _ 41 (0, 0) y2; have e7 : w2.cell? ⟨h, 7, none⟩ = some (.int .i64 z7) := cell_of_row w2 _ 7 _ 41 (0, 0) y2; have e10 : w2.cell? ⟨h, 10, none⟩ = some (.int .i64 z10) := cell_of_row w2 _ 10 _ 41 (0, 0) y2; have HB2 := Lib.hid (HB1.out.trans ((HBv.out.trans (hb2.mono HBv.out.size)).mono HB1.out.size)); clear hb2 y2))
          all_goals first
            | (exfalso; omega)
            | (go_ret; exact ⟨by first | (rw [HR2.out]; done) | (rw [HR2.out]; rfl), by first | exact HB2.out | (rw [← HG.out]; exact HB2.out)⟩)
        · rw [if_neg hbad'] at HE
          have hbad : ¬ (z7 < 0 ∨ 60000 < z7 ∨ z5 < -12800 ∨ 12800 < z5 ∨ z6 < -12800 ∨ 12800 < z6 ∨ z10 < -1 ∨ 4095 < z10) := hbad'
          clear hbad'
          have b1 : decide (z7 < 0) = false := decide_eq_false (by omega)
          have b2 : decide ((60000 : Int) < z7) = false := decide_eq_false (by omega)
          have b3 : decide (z5 < -12800) = false := decide_eq_false (by omega)
          have b4 : decide ((12800 : Int) < z5) = false := decide_eq_false (by omega)
          have b5 : decide (z6 < -12800) = false := decide_eq_false (by omega)
          have b6 : decide ((12800 : Int) < z6) = false := decide_eq_false (by omega)
          have b7 : decide (z10 < -1) = false := decide_eq_false (by omega)
          have b8 : decide ((4095 : Int) < z10) = false := decide_eq_false (by omega)
          clear hbad
          have hjn : (j : Int) ≤ (n : Int) := by omega
          have hjc : j ≤ c := by omega
          have HHD : Hid (w1.heap[g]? = some (.cells #[.int .i64 tm, .slice (some ⟨bb, off, none⟩) n c, .slice B m d] 25 (0, 0))) := HY
          cases dup
          · rw [if_neg (by simp)] at HE
            have HN := HEn.out HE.out
            clear HE HEs HEn
            go_wp2_with (first
              | (go_at_call 23; go_loud (refine (HP.out _).mono ?_; rintro E w2 ⟨rfl, hb2⟩; have y2 := (hb2.block h hlv).trans HYv.out; have e5 : w2.cell? ⟨h, 5, none⟩ = some (.int .i64 z5) := cell_of_row w2 _ 5 _ 41 (0, 0) y2; have e6 : w2.cell? ⟨h, 6, none⟩ = some (.int .i64 z6) := cell_of_row w2 _ 6 _ 41 (0, 0) y2; have e7 : w2.cell? ⟨h, 7, none⟩ = some (.int .i64 z7) := cell_of_row w2 _ 7 _ 41 (0, 0) y2; have e10 : w2.cell? ⟨h, 10, none⟩ = some (.int .i64 z10) := cell_of_row w2 _ 10 _ 41 (0, 0) y2; have HY2 := Lib.hid y2; have HBw := Lib.hid (HBv.out.trans (hb2.mono HBv.out.size)); have f1 : w2.cell? ⟨g, 1, none⟩ = some (.slice (some ⟨bb, off, none⟩) n c) := cell_of_row w2 _ 1 _ 25 (0, 0) ((HBw.out.block g hl).trans HHD.out); have hl2 : h < w2.heap.size := Nat.lt_of_lt_of_le hlv hb2.size; have HSw := Lib.hid ((HSv.out.below hb2).more hb2.size); clear hb2 y2))
              | (go_at_call 24; go_loud (refine (HD.out _ HSw.out hl2 HY2.out).mono ?_; rintro E w4 ⟨rfl, hb4⟩; have HB4 := Lib.hid (HBw.out.trans (hb4.mono HBw.out.size)); clear hb4)))
            go_roundw
            case rel => exact ⟨j + 1, by omega, by go_num, Lib.hid HN, HB4⟩
            case measure => simp [intOf]; omega
          · rw [if_pos rfl] at HE
            have HR2 : Hid (r = 7) := Lib.hid (by rw [HR.out, HEs.out (by rw [HE.out]; decide), HE.out]; rfl)
            clear HR HE HEs HEn HV HVP
            go_wp2_with (first
              | (go_at_call 23; go_loud (refine (HP.out _).mono ?_; rintro E w2 ⟨rfl, hb2⟩; have y2 := (hb2.block h hlv).trans HYv.out; have e5 : w2.cell? ⟨h, 5, none⟩ = some (.int .i64 z5) := cell_of_row w2 _ 5 _ 41 (0, 0) y2; have e6 : w2.cell? ⟨h, 6, none⟩ = some (.int .i64 z6) := cell_of_row w2 _ 6 _ 41 (0, 0) y2; have e7 : w2.cell? ⟨h, 7, none⟩ = some (.int .i64 z7) := cell_of_row w2 _ 7 _ 41 (0, 0) y2; have e10 : w2.cell? ⟨h, 10, none⟩ = some (.int .i64 z10) := cell_of_row w2 _ 10 _ 41 (0, 0) y2; have HY2 := Lib.hid y2; have HBw := Lib.hid (HBv.out.trans (hb2.mono HBv.out.size)); have f1 : w2.cell? ⟨g, 1, none⟩ = some (.slice (some ⟨bb, off, none⟩) n c) := cell_of_row w2 _ 1 _ 25 (0, 0) ((HBw.out.block g hl).trans HHD.out); have hl2 : h < w2.heap.size := Nat.lt_of_lt_of_le hlv hb2.size; have HSw := Lib.hid ((HSv.out.below hb2).more hb2.size); clear hb2 y2))
              | (go_at_call 24; go_loud (refine (HD.out _ HSw.out hl2 HY2.out).mono ?_; rintro E w4 ⟨rfl, hb4⟩; have HB4 := Lib.hid (HB1.out.trans ((HBw.out.trans (hb4.mono HBw.out.size)).mono HB1.out.size)); clear hb4)))
            go_ret
            exact ⟨by first | (rw [HR2.out]; done) | (rw [HR2.out]; rfl), by first | exact HB4.out | (rw [← HG.out]; exact HB4.out)⟩
      · rw [if_pos hp] at HE
        have hpd : (pe == 0) = false := beq_eq_false_iff_ne.2 hp
        have hpe : (pe != 0) = true := bne_iff_ne.2 hp
        have HR2 : Hid (r = pe) := Lib.hid (by rw [HR.out, HEs.out (by rw [HE.out]; exact hp), HE.out, if_pos hp])
        clear HR HE HEs HEn HD HV HVP
        go_wp2_with (go_at_call 23; go_loud (refine (HP.out _).mono ?_; rintro E w2 ⟨rfl, hb2⟩; have HB2 := Lib.hid (HB1.out.trans ((HBv.out.trans (hb2.mono HBv.out.size)).mono HB1.out.size)); clear hb2))
        go_ret
        exact ⟨by first | (rw [HR2.out]; done) | (rw [HR2.out]; rfl), by first | exact HB2.out | (rw [← HG.out]; exact HB2.out)⟩
    · obtain rfl : n = j := by omega
      obtain ⟨wo, rfl⟩ : ∃ wo, wo = wr := ⟨_, rfl⟩
      have HR2 : Hid (r = firstE (voE V) m) := Lib.hid (by rw [HR.out, if_neg (by simp [HF.out])])
      have HBx := Lib.hid (HB1.out.trans (HBr.out.mono HB1.out.size))
      have e2 : wo.cell? ⟨g, 2, none⟩ = some (.slice B m d) := (HBr.out.cell (p := ⟨g, 2, none⟩) hl).trans c2
      have HW1 : Hid (w.heap.size ≤ wo.heap.size) := Lib.hid HBx.out.size
      clear HR HF HT c0 c1 c2
      go_wp2
      go_loopw [97] (fun i wr => ∃ j : Nat, j ≤ m ∧ i = .int .i64 (j : Int) ∧ Hid (firstE (voE V) j = 0) ∧ Hid (Below wo.heap.size wo wr)) (fun i _ => m - (intOf i).toNat)
      case atStart => exact ⟨0, by omega, rfl, Lib.hid rfl, Lib.hid (Below.refl _ _)⟩
      case round =>
        obtain ⟨k, hk, rfl, HF, HBq⟩ := hrel
        have hzq := HBq.out.size
        by_cases hlt : k < m
        · obtain ⟨bb, off, rfl, hbb, hr⟩ := HV.out (by omega)
          have hbbr : bb < wo.heap.size := Nat.lt_of_lt_of_le hbb HW1.out
          have hcs : ∀ q v, (voL (V k))[q]? = some v → wr.cell? ⟨bb, off + k * 3 + q, none⟩ = some v := fun q v hv => (HBq.out.cell (p := ⟨bb, off + k * 3 + q, none⟩) hbbr).trans ((HBx.out.cell (p := ⟨bb, off + k * 3 + q, none⟩) hbb).trans (hr k hlt q v hv))
          have HSl := Lib.hid ((((HVP.out k hlt).below HBx.out).more HW1.out).below HBq.out |>.more hzq)
          have HE : Hid (voE V k = volE (V k).F (V k).n (V k).lo (V k).hi) := Lib.hid rfl
          have HEn := Lib.hid (fun h => firstE_next HF.out (show voE V k = 0 from h))
          have HEs := Lib.hid (fun h => firstE_stop HF.out (show voE V k ≠ 0 from h) hlt)
          generalize voE V k = vke at *
          obtain ⟨v, hv⟩ : ∃ v, V k = v := ⟨_, rfl⟩
          rw [hv] at hcs HE HSl
          clear hr hv
          obtain ⟨vA, vn, vc, vF, vlo, vhi⟩ := v
          dsimp only at HE HSl
          have d0 : wr.cell? ⟨bb, off + k * 3, none⟩ = some (.slice vA vn vc) := hcs 0 _ rfl
          have d1 : wr.cell? ⟨bb, off + k * 3 + 1, none⟩ = some (.int .i64 vlo) := hcs 1 _ rfl
          have d2 : wr.cell? ⟨bb, off + k * 3 + 2, none⟩ = some (.int .i64 vhi) := hcs 2 _ rfl
          clear hcs
          have l1 : (k : Int) < (m : Int) := by omega
          have l0 : (0 : Int) ≤ (k : Int) := by omega
          have hwk : IntKind.i64.wrap ((k : Int) + 1) = (k : Int) + 1 := IntWalk.i64_in _ (by omega)
          obtain ⟨wv, hwv⟩ : ∃ W, wr.alloc (.cells #[.slice vA vn vc, .int .i64 vlo, .int .i64 vhi] 79) = W := ⟨_, rfl⟩
          have hbv : Below wr.heap.size wr wv := by rw [← hwv]; exact (Below.refl _ _).alloc (Nat.le_refl _) _
          have hyv : wv.heap[wr.heap.size]? = some (.cells #[.slice vA vn vc, .int .i64 vlo, .int .i64 vhi] 79 (0, 0)) := by rw [← hwv]; exact heap_alloc_new _ _
          have HP := Lib.hid (volCheck_any vA vn vc vF vlo vhi wv ((HSl.out.below hbv).more hbv.size))
          have HBv := Lib.hid (HBq.out.trans (hbv.mono hzq))
          obtain ⟨h, hh⟩ : ∃ h, wr.heap.size = h := ⟨_, rfl⟩
          rw [hh] at hyv
          have v0 : wv.cell? ⟨h, 0, none⟩ = some (.slice vA vn vc) := cell_of_row wv _ 0 _ 79 (0, 0) hyv
          have v1 : wv.cell? ⟨h, 1, none⟩ = some (.int .i64 vlo) := cell_of_row wv _ 1 _ 79 (0, 0) hyv
          have v2 : wv.cell? ⟨h, 2, none⟩ = some (.int .i64 vhi) := cell_of_row wv _ 2 _ 79 (0, 0) hyv
          clear hyv hbv HSl
          generalize volE vF vn vlo vhi = ve at *
          by_cases hp : ve = 0
          · subst hp
            have HN := HEn.out HE.out
            clear HE HEs HEn HV HVP
            go_wp2_with (go_at_call 26; go_loud (refine HP.out.mono ?_; rintro E w4 ⟨rfl, hb4⟩; have HB4 := Lib.hid (HBv.out.trans (hb4.mono HBv.out.size)); clear hb4))
            go_roundw
            case rel => exact ⟨k + 1, by omega, by go_num, Lib.hid HN, HB4⟩
            case measure => simp [intOf]; omega
          · have hpd : (ve == 0) = false := beq_eq_false_iff_ne.2 hp
            have hpe : (ve != 0) = true := bne_iff_ne.2 hp
            have HR3 : Hid (r = ve) := Lib.hid (by rw [HR2.out, HEs.out (by rw [HE.out]; exact hp), HE.out])
            clear HR2 HE HEs HEn HV HVP
            go_wp2_with (go_at_call 26; go_loud (refine HP.out.mono ?_; rintro E w4 ⟨rfl, hb4⟩; have HB4 := Lib.hid (HBx.out.trans ((HBv.out.trans (hb4.mono HBv.out.size)).mono HBx.out.size)); clear hb4))
            go_ret
            exact ⟨by first | (rw [HR3.out]; done) | (rw [HR3.out]; rfl), by first | exact HB4.out | (rw [← HG.out]; exact HB4.out)⟩
        · obtain rfl : m = k := by omega
          have HB5 := Lib.hid (HBx.out.trans (HBq.out.mono HBx.out.size))
          go_wp2
          go_ret
          exact ⟨by first | (rw [HR2.out, HF.out]; done) | (rw [HR2.out, HF.out]; rfl), by first | exact HB5.out | (rw [← HG.out]; exact HB5.out)⟩
end Go.Proofs.Ytdmecagdjbjgjaa
