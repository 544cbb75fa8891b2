/- Package screen: Picture of points alone. -/
import Derived.Test.YtlkdjnmehnibmaaA4
import Derived.Laws.BytesArg
import Derived.StillTailTactics
import Derived.Lib.SlBytesConst
namespace Go.Proofs.Ytlkdjnmehnibmaa
open Go.RowKit

/-- The rows of a picture: the array in block R, the bytes in blocks of their own; k rows are made. -/
structure Rows (W : World) (R wd k : Nat) (G : Nat → Nat) (f : Nat → Nat → Int) : Prop where
  arr : ∃ cs : Array Value, W.heap[R]? = some (.cells cs 59 (0, 0)) ∧ (∀ y, y < k → cs[y]? = some (.slice (some ⟨G y, 0, none⟩) wd wd)) ∧ ∀ y, k ≤ y → y < 60 → cs[y]? = some (.slice none 0 0)
  byt : ∀ y, y < k → Bytes W (G y) wd (f y)
  inj : ∀ y z, y < k → z < k → y ≠ z → G y ≠ G z
  far : ∀ y, y < k → R < G y
section
variable {W W' : World} {R wd k : Nat} {G : Nat → Nat} {f f' : Nat → Nat → Int}
theorem Rows.lt (h : Rows W R wd k G f) : R < W.heap.size := by
  obtain ⟨cs, h, _⟩ := h.arr
  exact (Array.getElem?_eq_some_iff.1 h).1
theorem Rows.below (h : Rows W R wd k G f) (hb : Below W.heap.size W W') : Rows W' R wd k G f := by
  obtain ⟨cs, h1, h2, h3⟩ := h.arr
  exact ⟨⟨cs, (hb.block R h.lt).trans h1, h2, h3⟩, fun y hy => (h.byt y hy).keep (hb.block _ (h.byt y hy).lt), h.inj, h.far⟩
theorem Rows.drewN (h : Rows W R wd k G f) (q : Nat) : Rows (W.drewN q) R wd k G f := h.below (below_drewN (Below.refl _ _) q)
theorem Rows.cell (h : Rows W R wd k G f) {y : Nat} (hy : y < k) : W.cell? ⟨R, y, none⟩ = some (.slice (some ⟨G y, 0, none⟩) wd wd) := by
  obtain ⟨cs, h1, h2, h3⟩ := h.arr
  exact (cell_of_row W R y cs 59 (0, 0) h1).trans (h2 y hy)
theorem Rows.free (h : Rows W R wd k G f) {y : Nat} (hy : k ≤ y) (hy2 : y < 60) : W.cell? ⟨R, y, none⟩ = some (.slice none 0 0) ∧ W.frozen? ⟨R, y, none⟩ = false := by
  obtain ⟨cs, h1, h2, h3⟩ := h.arr
  exact ⟨(cell_of_row W R y cs 59 (0, 0) h1).trans (h3 y hy hy2), frozen_of_row W R y cs 59 h1⟩
theorem Rows.congr (h : Rows W R wd k G f) (e : ∀ y x, y < k → x < wd → f y x = f' y x) : Rows W R wd k G f' := by
  refine ⟨h.arr, fun y hy => ?_, h.inj, h.far⟩
  obtain ⟨cur, h1, h2, h3⟩ := h.byt y hy
  exact ⟨cur, h1, h2, fun x hx => by rw [← e y x hy hx]; exact h3 x hx⟩
/-- One row more. -/
theorem Rows.push (h : Rows W R wd k G f) (hk : k < 60) (g : Nat) (hg : ∀ y, y < k → G y ≠ g) (hR : R < g) (fb : Nat → Int) (hb : Bytes W g wd fb) :
    Rows (W.setCell ⟨R, k, none⟩ (.slice (some ⟨g, 0, none⟩) wd wd)) R wd (k + 1) (fun y => if y = k then g else G y) (fun y => if y = k then fb else f y) := by
  obtain ⟨cs, h1, h2, h3⟩ := h.arr
  have hs := heap_setCell_same W R k cs 59 (.slice (some ⟨g, 0, none⟩) wd wd) h1
  have hsz : k < cs.size := by
    have := h3 k (Nat.le_refl _) hk
    exact (Array.getElem?_eq_some_iff.1 this).1
  refine ⟨⟨_, hs, fun y hy => ?_, fun y hy hy2 => ?_⟩, fun y hy => ?_, fun y z hy hz hne => ?_, fun y hy => ?_⟩
  · by_cases e : y = k
    · subst e
      rw [Array.getElem?_setIfInBounds_self_of_lt hsz]; simp
    · rw [Array.getElem?_setIfInBounds_ne (fun x => e x.symm), if_neg e]
      exact h2 y (by omega)
  · rw [Array.getElem?_setIfInBounds_ne (by omega)]
    exact h3 y (by omega) hy2
  · by_cases e : y = k
    · subst e
      simp only [if_true]
      exact hb.keep (heap_setCell_other _ _ _ _ (by show g ≠ R; omega))
    · simp only [if_neg e]
      have := h.far y (by omega)
      exact (h.byt y (by omega)).keep (heap_setCell_other _ _ _ _ (by show G y ≠ R; omega))
  · by_cases e : y = k
    · subst e
      simp only [if_true, if_neg (Ne.symm hne)]
      exact fun x => hg z (by omega) x.symm
    · by_cases e2 : z = k
      · subst e2
        simp only [if_true, if_neg e]
        exact hg y (by omega)
      · simp only [if_neg e, if_neg e2]
        exact h.inj y z (by omega) (by omega) hne
  · by_cases e : y = k
    · simp only [if_pos e]; exact hR
    · simp only [if_neg e]; exact h.far y (by omega)
/-- One byte is written. -/
theorem Rows.mark (h : Rows W R wd k G f) {y x : Nat} (hy : y < k) (c : Int) :
    Rows (W.setCell ⟨G y, x, none⟩ (.int .u8 c)) R wd k G (fun y' x' => if y' = y ∧ x' = x then c else f y' x') := by
  obtain ⟨cs, h1, h2, h3⟩ := h.arr
  have hR := h.far y hy
  refine ⟨⟨cs, (heap_setCell_other _ _ _ _ (by show R ≠ G y; omega)).trans h1, h2, h3⟩, fun z hz => ?_, h.inj, h.far⟩
  by_cases e : z = y
  · subst e
    have := (h.byt z hz).set x c
    simpa using this
  · simp only [e, false_and, if_false]
    exact (h.byt z hz).keep (heap_setCell_other _ _ _ _ (by exact h.inj z y hz hy e))
end

/-- Has one of the first k points the cell (x, y)? -/
def hitB (p : Nat → Int × Int) (k : Nat) (y x : Nat) : Bool := (List.range k).any fun i => decide ((p i).1 = (x : Int)) && decide ((p i).2 = (y : Int))
def fP (p : Nat → Int × Int) (k : Nat) (y x : Nat) : Int := if hitB p k y x = true then 111 else 32
theorem hit_succ (p : Nat → Int × Int) (k y x : Nat) : hitB p (k + 1) y x = (hitB p k y x || (decide ((p k).1 = (x : Int)) && decide ((p k).2 = (y : Int)))) := by
  unfold hitB
  rw [List.range_succ, List.any_append]
  simp
def cellOf (cx cy sc wd ht : Int) (q : Int × Int) : Int × Int := ((q.1 - cx) / sc + wd / 2, (q.2 - cy) / sc + ht / 2)
def rowStr (wd : Nat) (g : Nat → Int) : ByteArray := strOfNums ((List.range wd).map g)

theorem str_info : (Try.prog.info? 9).map (fun i => (i.zero, i.size, i.bytes)) = some (some (.string ByteArray.empty), 1, 16) := by kernel_rfl
set_option maxRecDepth 100000 in
set_option maxHeartbeats 8000000 in
theorem Picture_pts (cx cy sc : Int) (wd ht : Nat) (A : Option Addr) (n c : Nat) (f : Nat → Int × Int) (w : World) (h1 : -1000000 ≤ cx) (h2 : cx ≤ 1000000) (h3 : -1000000 ≤ cy) (h4 : cy ≤ 1000000) (h5 : 1 ≤ sc) (h6 : sc ≤ 50000) (hb : sideE wd ht = 0)
    (hA : Sl w w.heap.size 2 A n (ptRow f)) (hn : n ≤ 32) (hf : ∀ i, i < n → PtOk (f i)) :
    Calls Try.prog 13 #[.agg #[.int .i64 cx, .int .i64 cy, .int .i64 sc, .int .i64 wd, .int .i64 ht], .slice none 0 0, .slice A n c] w fun e w' => ∃ A' c', e = .returned (.tuple #[.slice A' ht c', .int .i64 0]) ∧ w'.ownsRow w.heap.size 9 1 (.slice A' ht c') ht ((List.range ht).map fun k => .string (rowStr wd (fP (fun i => cellOf cx cy sc wd ht (f i)) n (ht - 1 - k)))) ∧ Below w.heap.size w w' := by
  have hs : 1 ≤ wd ∧ wd ≤ 60 ∧ 1 ≤ ht ∧ ht ≤ 60 := by
    unfold sideE at hb
    by_cases c : 1 ≤ (wd : Int) ∧ (wd : Int) ≤ 60 ∧ 1 ≤ (ht : Int) ∧ (ht : Int) ≤ 60
    · omega
    · rw [if_neg c] at hb; cases hb
  have hb1 : Below w.heap.size w (w.alloc (.cells #[.int .i64 cx, .int .i64 cy, .int .i64 sc, .int .i64 wd, .int .i64 ht] 25)) := (Below.refl _ _).alloc (Nat.le_refl _) _
  have HCK := Lib.hid (check_pts cx cy sc wd ht A n c f _ h1 h2 h3 h4 h5 h6 hb ((hA.below hb1).more hb1.size) hn hf)
  have HB1 := Lib.hid hb1
  have HA := Lib.hid hA
  have HF := Lib.hid hf
  have HV := Lib.hid (And.intro h1 (And.intro h2 (And.intro h3 (And.intro h4 (And.intro h5 h6)))))
  have n0 : (0 : Int) ≤ (n : Int) := by omega
  have w0 : (0 : Int) ≤ (wd : Int) := by omega
  have t0 : (0 : Int) ≤ (ht : Int) := by omega
  clear hb hb1 hA hf h1 h2 h3 h4 h5 h6
  go_enter Try.func13, Try.ntmps13
  go_wp2_with (go_at_call 25; go_loud (refine HCK.out.mono ?_; rintro e w1 ⟨rfl, hb2⟩; have hz2 := hb2.size; simp at hz2; have HB2 := Lib.hid (HB1.out.trans (hb2.mono (by simp))); have hV1 : w1.heap[w.heap.size]? = some (.cells #[.int .i64 cx, .int .i64 cy, .int .i64 sc, .int .i64 wd, .int .i64 ht] 25 (0, 0)) := (hb2.block w.heap.size (by simp)).trans (heap_alloc_new w _); have hvl : w.heap.size < w1.heap.size := (by omega); have va : ∀ o, (w1.alloc o).cell? ⟨w.heap.size, 4, none⟩ = some (.int .i64 (ht : Int)) := (fun o => (World.cell?_alloc_lt w1 o ⟨w.heap.size, 4, none⟩ hvl).trans (cell_of_row w1 w.heap.size 4 _ 25 (0, 0) hV1)); have HV1 := Lib.hid hV1; clear hb2 hV1))
  obtain ⟨NL, hNL⟩ : ∃ NL : Array Value, #[.slice none 0 0, .slice none 0 0, .slice none 0 0, .slice none 0 0, .slice none 0 0, .slice none 0 0, .slice none 0 0, .slice none 0 0, .slice none 0 0, .slice none 0 0, .slice none 0 0, .slice none 0 0, .slice none 0 0, .slice none 0 0, .slice none 0 0, .slice none 0 0, .slice none 0 0, .slice none 0 0, .slice none 0 0, .slice none 0 0, .slice none 0 0, .slice none 0 0, .slice none 0 0, .slice none 0 0, .slice none 0 0, .slice none 0 0, .slice none 0 0, .slice none 0 0, .slice none 0 0, .slice none 0 0, .slice none 0 0, .slice none 0 0, .slice none 0 0, .slice none 0 0, .slice none 0 0, .slice none 0 0, .slice none 0 0, .slice none 0 0, .slice none 0 0, .slice none 0 0, .slice none 0 0, .slice none 0 0, .slice none 0 0, .slice none 0 0, .slice none 0 0, .slice none 0 0, .slice none 0 0, .slice none 0 0, .slice none 0 0, .slice none 0 0, .slice none 0 0, .slice none 0 0, .slice none 0 0, .slice none 0 0, .slice none 0 0, .slice none 0 0, .slice none 0 0, .slice none 0 0, .slice none 0 0, .slice none 0 0] = NL := ⟨_, rfl⟩
  have hrep : NL = Array.replicate 60 (.slice none 0 0) := hNL.symm.trans rfl
  rw [hNL]
  have hR0 : Rows (w1.alloc (.cells NL 59)) w1.heap.size wd 0 (fun _ => 0) (fun _ _ => 32) :=
    ⟨⟨_, heap_alloc_new w1 _, fun y hy => absurd hy (by omega), fun y _ hy => by rw [hrep, Array.getElem?_replicate, if_pos hy]⟩, fun y hy => absurd hy (by omega), fun y z hy => absurd hy (by omega), fun y hy => absurd hy (by omega)⟩
  have hV0 : (w1.alloc (.cells NL 59)).heap[w.heap.size]? = some (.cells #[.int .i64 cx, .int .i64 cy, .int .i64 sc, .int .i64 wd, .int .i64 ht] 25 (0, 0)) := (Below.heap_alloc w1 _ w.heap.size hvl).trans HV1.out
  have HR0 := Lib.hid (And.intro hR0 (And.intro hV0 (HB2.out.alloc (by omega) (.cells NL 59))))
  clear hR0 hV0 hNL hrep va
  generalize hW0 : w1.alloc (.cells NL 59) = W0 at *
  obtain ⟨R, hR⟩ : ∃ R, w1.heap.size = R := ⟨_, rfl⟩
  rw [hR] at HR0
  simp only [hR]
  have hRl : w.heap.size < R := by omega
  clear hW0 hR HV1 HB1 HB2 HCK hz2 hvl
  have HRR : Hid (Rows W0 R wd 0 (fun _ => 0) (fun _ _ => 32)) := Lib.hid HR0.out.1
  have HVV : Hid (W0.heap[w.heap.size]? = some (.cells #[.int .i64 cx, .int .i64 cy, .int .i64 sc, .int .i64 wd, .int .i64 ht] 25 (0, 0))) := Lib.hid HR0.out.2.1
  have HBB : Hid (Below w.heap.size w W0) := Lib.hid HR0.out.2.2
  clear HR0
  have kc := fun (w : World) (C : Array Value) (n c : Nat) => Lib.run_convert_bytes_const (P := Try.prog) w 58 5 C n c Try.underlying58 Try.underlying5
  go_loopw [33] (fun x wr => ∃ (j : Nat) (G : Nat → Nat) (fr : Nat → Nat → Int), j ≤ ht ∧ x = .int .i64 j ∧ Rows wr R wd j G fr ∧ (∀ y, y < j → fr y = fun _ => 32) ∧ Hid (wr.heap[w.heap.size]? = some (.cells #[.int .i64 cx, .int .i64 cy, .int .i64 sc, .int .i64 wd, .int .i64 ht] 25 (0, 0))) ∧ Below w.heap.size w wr) (fun x _ => ht - (intOf x).toNat)
  case atStart => exact ⟨0, _, _, by omega, rfl, HRR.out, fun y hy => absurd hy (by omega), HVV, HBB.out⟩
  case round =>
    obtain ⟨j, G, fr, hj, rfl, hrows, hfr, HVW, hbw⟩ := hrel
    have HROWS := Lib.hid hrows
    have HFR := Lib.hid hfr
    have HBW := Lib.hid hbw
    have hz := hbw.size
    have hRW := hrows.lt
    have hvl : w.heap.size < wr.heap.size := by omega
    clear hrows hfr hbw
    by_cases hlt : j < ht
    · have v3 : wr.cell? ⟨w.heap.size, 3, none⟩ = some (.int .i64 (wd : Int)) := cell_of_row wr w.heap.size 3 _ 25 (0, 0) HVW.out
      have hne : w.heap.size ≠ wr.heap.size := by omega
      have hj0 : (0 : Int) ≤ (j : Int) := by omega
      have hjh : (j : Int) < (ht : Int) := by omega
      have hj60 : (j : Int) < 60 := by omega
      go_wp2_with (go_at_call 26; go_loud (refine (Repeat_blank wr.heap.size wd _ (by exact heap_alloc_new wr _) hs.1 hs.2.1).mono ?_; rintro e w2 ⟨rfl, hby, hb2⟩; have hrw2 := HROWS.out.below (((Below.refl _ wr).alloc (Nat.le_refl _) (.cells #[.int .u8 32] 5 (1, 2))).trans (hb2.mono (by simp))); obtain ⟨q1, q2⟩ := hrw2.free (y := j) (Nat.le_refl _) (by omega); have H2 := Lib.hid (And.intro hrw2 (And.intro hby hb2)); clear hrw2 hby hb2))
      go_roundw
      case rel =>
        have hpush := H2.out.1.push (by omega) (wr.alloc (.cells #[.int .u8 32] 5 (1, 2))).heap.size (fun y hy => by have := (HROWS.out.byt y hy).lt; simp; omega) (by simp; omega) (fun _ => 32) H2.out.2.1
        refine ⟨j + 1, _, _, by omega, by go_num, by simpa using hpush, fun y hy => ?_, Lib.hid ?_, ?_⟩
        · by_cases e : y = j
          · simp only [if_pos e]
          · simp only [if_neg e]; exact HFR.out y (by omega)
        · exact (heap_setCell_other _ _ _ _ (by show w.heap.size ≠ R; omega)).trans ((H2.out.2.2.block w.heap.size (by simp; omega)).trans ((Below.heap_alloc wr _ w.heap.size hvl).trans HVW.out))
        · exact (HBW.out.trans ((((Below.refl _ wr).alloc (Nat.le_refl _) _).trans (H2.out.2.2.mono (by simp))).mono hz)).setCell (p := ⟨R, j, none⟩) (Nat.le_of_lt hRl) _
      case measure => simp [intOf]; omega
    · obtain rfl : ht = j := by omega
      have hrc : Rows wr R wd ht G (fP (fun i => cellOf cx cy sc wd ht (f i)) 0) := HROWS.out.congr (fun y x hy hx => by rw [HFR.out y hy]; rfl)
      have HRC := Lib.hid hrc
      clear hrc
      go_wp2
      go_loop [46] (fun x => x = .int .i64 (0 : Nat)) (fun _ => 0)
      case atStart => rfl
      case round =>
        obtain rfl := hrel
        go_wp2
        have htl : ht < 61 := by omega
        go_loopw [97] (fun x wp => ∃ k : Nat, k ≤ n ∧ x = .int .i64 k ∧ Rows wp R wd ht G (fP (fun i => cellOf cx cy sc wd ht (f i)) k) ∧ Hid (wp.heap[w.heap.size]? = some (.cells #[.int .i64 cx, .int .i64 cy, .int .i64 sc, .int .i64 wd, .int .i64 ht] 25 (0, 0))) ∧ Below w.heap.size w wp) (fun x _ => n - (intOf x).toNat)
        case atStart => exact ⟨0, by omega, rfl, HRC.out, HVW, HBW.out⟩
        case round =>
          obtain ⟨k, hk, rfl, hrows, HVP, hbp⟩ := hrel
          have HRW := Lib.hid hrows
          have HBP := Lib.hid hbp
          have hzp := hbp.size
          have hRp := hrows.lt
          have hvp : w.heap.size < wr.heap.size := by omega
          clear hrows hbp
          by_cases hkn : k < n
          · obtain ⟨b, off, rfl, hbl, hr⟩ := pt_cells HA.out (by omega)
            obtain ⟨r0, r1⟩ := hr k hkn
            have o0 := (HBP.out.cell (p := ⟨b, off + k * 2, none⟩) hbl).trans r0
            have o1 := (HBP.out.cell (p := ⟨b, off + k * 2 + 1, none⟩) hbl).trans r1
            obtain ⟨p1, p2, p3, p4⟩ := HF.out k hkn
            obtain ⟨z1, z2, z3, z4, z5, z6⟩ := HV.out
            have hce := fun W => cell_any cx cy sc wd ht (f k).1 (f k).2 W (by omega) (by omega) ⟨z5, z6⟩ (by omega) (by omega)
            have hcc : cellOf cx cy sc wd ht (f k) = (((f k).1 - cx) / sc + (wd : Int) / 2, ((f k).2 - cy) / sc + (ht : Int) / 2) := rfl
            have hsu := fun y x => hit_succ (fun i => cellOf cx cy sc wd ht (f i)) k y x
            simp only [hcc] at hsu
            generalize ((f k).1 - cx) / sc + (wd : Int) / 2 = c1 at *
            generalize ((f k).2 - cy) / sc + (ht : Int) / 2 = c2 at *
            generalize (f k).1 = x at *
            generalize (f k).2 = y at *
            have HCE := Lib.hid hce
            have HSU := Lib.hid hsu
            have HVI := Lib.hid (fun W => visible_any cx cy sc wd ht c1 c2 W)
            have v0 : wr.cell? ⟨w.heap.size, 0, none⟩ = some (.int .i64 cx) := cell_of_row wr w.heap.size 0 _ 25 (0, 0) HVP.out
            have v1 : wr.cell? ⟨w.heap.size, 1, none⟩ = some (.int .i64 cy) := cell_of_row wr w.heap.size 1 _ 25 (0, 0) HVP.out
            have v2 : wr.cell? ⟨w.heap.size, 2, none⟩ = some (.int .i64 sc) := cell_of_row wr w.heap.size 2 _ 25 (0, 0) HVP.out
            have v3 : wr.cell? ⟨w.heap.size, 3, none⟩ = some (.int .i64 (wd : Int)) := cell_of_row wr w.heap.size 3 _ 25 (0, 0) HVP.out
            have v4 : wr.cell? ⟨w.heap.size, 4, none⟩ = some (.int .i64 (ht : Int)) := cell_of_row wr w.heap.size 4 _ 25 (0, 0) HVP.out
            have hnv : w.heap.size ≠ wr.heap.size := by omega
            have hk0 : (0 : Int) ≤ (k : Int) := by omega
            have hkn' : (k : Int) < (n : Int) := by omega
            have hbw : b < wr.heap.size := by omega
            clear hr r0 r1 p1 p2 p3 p4 z1 z2 z3 z4 z5 z6 hce hcc hsu
            cases hvb : visB wd ht c1 c2 with
            | true =>
              have HVB := Lib.hid hvb
              have hvv : 0 ≤ c1 ∧ c1 < (wd : Int) ∧ 0 ≤ c2 ∧ c2 < (ht : Int) := of_decide_eq_true hvb
              clear hvb
              obtain ⟨xx, hxx⟩ : ∃ xx : Nat, c1 = xx := ⟨c1.toNat, by omega⟩
              obtain ⟨yy, hyy⟩ : ∃ yy : Nat, c2 = yy := ⟨c2.toNat, by omega⟩
              subst hxx hyy
              have hxl : xx < wd := by omega
              have hyl : yy < ht := by omega
              go_wp2_with (first
                | (go_at_call 23; go_loud (refine (HCE.out _).mono ?_; rintro e w3 ⟨rfl, hb3⟩; have hz3 := hb3.size; simp at hz3; have hb3' : Below wr.heap.size wr w3 := ((Below.refl _ wr).alloc (Nat.le_refl _) _).trans (hb3.mono (by simp)); have u0 := (hb3'.cell (p := ⟨w.heap.size, 0, none⟩) hvp).trans v0; have u1 := (hb3'.cell (p := ⟨w.heap.size, 1, none⟩) hvp).trans v1; have u2 := (hb3'.cell (p := ⟨w.heap.size, 2, none⟩) hvp).trans v2; have u3 := (hb3'.cell (p := ⟨w.heap.size, 3, none⟩) hvp).trans v3; have u4 := (hb3'.cell (p := ⟨w.heap.size, 4, none⟩) hvp).trans v4; have hn3 : w.heap.size < w3.heap.size := (by omega); have hn3' : w.heap.size ≠ w3.heap.size := (by omega); have H3 := Lib.hid hb3'; clear hb3 hb3'))
                | (go_at_call 24; go_loud (refine (HVI.out _).mono ?_; rintro e w4 ⟨he4, hb4⟩; rw [HVB.out] at he4; subst he4; have H4 := Lib.hid (((Below.refl _ w3).alloc (Nat.le_refl _) (.cells #[.int .i64 (xx : Int), .int .i64 (yy : Int)] 27)).trans (hb4.mono (by simp))); have hT : w4.heap[w3.heap.size]? = some (.cells #[.int .i64 (xx : Int), .int .i64 (yy : Int)] 27 (0, 0)) := (hb4.block w3.heap.size (by simp)).trans (heap_alloc_new w3 _); have HT := Lib.hid hT; have hz4 := hb4.size; simp at hz4; clear hb4 hT)))
              have hr4 := HRW.out.below (H3.out.trans (H4.out.mono H3.out.size))
              have g0 := hr4.cell (y := yy) hyl
              obtain ⟨g1, g2⟩ := (hr4.byt yy hyl).cell hxl
              have q0 : w4.cell? ⟨w3.heap.size, 0, none⟩ = some (.int .i64 (xx : Int)) := cell_of_row w4 w3.heap.size 0 _ 27 (0, 0) HT.out
              have q1 : w4.cell? ⟨w3.heap.size, 1, none⟩ = some (.int .i64 (yy : Int)) := cell_of_row w4 w3.heap.size 1 _ 27 (0, 0) HT.out
              have y0 : (0 : Int) ≤ (yy : Int) := by omega
              have y60 : (yy : Int) < 60 := by omega
              have x0 : (0 : Int) ≤ (xx : Int) := by omega
              have xw : (xx : Int) < (wd : Int) := by omega
              have hmk := hr4.mark (x := xx) hyl 111
              have hfar := hr4.far yy hyl
              have HMK := Lib.hid hmk
              have HB4 := Lib.hid (HBP.out.trans ((H3.out.trans (H4.out.mono H3.out.size)).mono hzp))
              have HVP4 : Hid (w4.heap[w.heap.size]? = some (.cells #[.int .i64 cx, .int .i64 cy, .int .i64 sc, .int .i64 wd, .int .i64 ht] 25 (0, 0))) := Lib.hid (((H3.out.trans (H4.out.mono H3.out.size)).block w.heap.size hvp).trans HVP.out)
              clear hr4 hmk v0 v1 v2 v3 v4 u0 u1 u2 u3 u4 o0 o1
              go_still_tail 7, (by kernel_rfl)
              change wpList _ _ _ _ _ w4.drew
              go_wp2
              go_roundw
              case rel =>
                refine ⟨k + 1, by omega, by go_num, (HMK.out.congr (fun y' x' hy' hx' => ?_)).drewN 1, Lib.hid ?_, (HB4.out.setCell (p := ⟨G yy, xx, none⟩) (by show w.heap.size ≤ G yy; omega) _).drew⟩
                · unfold fP
                  rw [HSU.out y' x']
                  by_cases e : y' = yy ∧ x' = xx
                  · obtain ⟨rfl, rfl⟩ := e
                    simp
                  · rw [if_neg e]
                    have : (decide ((xx : Int) = (x' : Int)) && decide ((yy : Int) = (y' : Int))) = false := by
                      rw [Bool.eq_false_iff]
                      intro h
                      simp only [Bool.and_eq_true, decide_eq_true_eq] at h
                      exact e ⟨by omega, by omega⟩
                    rw [this, Bool.or_false]
                · exact (heap_setCell_other _ _ _ _ (by show w.heap.size ≠ G yy; omega)).trans HVP4.out
              case measure => simp [intOf]; omega
            | false =>
              have HVB := Lib.hid hvb
              have hvv : ¬ (0 ≤ c1 ∧ c1 < (wd : Int) ∧ 0 ≤ c2 ∧ c2 < (ht : Int)) := of_decide_eq_false hvb
              have HVN := Lib.hid hvv
              clear hvb hvv
              go_wp2_with (first
                | (go_at_call 23; go_loud (refine (HCE.out _).mono ?_; rintro e w3 ⟨rfl, hb3⟩; have hz3 := hb3.size; simp at hz3; have hb3' : Below wr.heap.size wr w3 := ((Below.refl _ wr).alloc (Nat.le_refl _) _).trans (hb3.mono (by simp)); have u0 := (hb3'.cell (p := ⟨w.heap.size, 0, none⟩) hvp).trans v0; have u1 := (hb3'.cell (p := ⟨w.heap.size, 1, none⟩) hvp).trans v1; have u2 := (hb3'.cell (p := ⟨w.heap.size, 2, none⟩) hvp).trans v2; have u3 := (hb3'.cell (p := ⟨w.heap.size, 3, none⟩) hvp).trans v3; have u4 := (hb3'.cell (p := ⟨w.heap.size, 4, none⟩) hvp).trans v4; have hn3 : w.heap.size < w3.heap.size := (by omega); have hn3' : w.heap.size ≠ w3.heap.size := (by omega); have H3 := Lib.hid hb3'; clear hb3 hb3'))
                | (go_at_call 24; go_loud (refine (HVI.out _).mono ?_; rintro e w4 ⟨he4, hb4⟩; rw [HVB.out] at he4; subst he4; have H4 := Lib.hid (((Below.refl _ w3).alloc (Nat.le_refl _) (.cells #[.int .i64 c1, .int .i64 c2] 27)).trans (hb4.mono (by simp))); have hT : w4.heap[w3.heap.size]? = some (.cells #[.int .i64 c1, .int .i64 c2] 27 (0, 0)) := (hb4.block w3.heap.size (by simp)).trans (heap_alloc_new w3 _); have HT := Lib.hid hT; have hz4 := hb4.size; simp at hz4; clear hb4 hT)))
              have hr4 := HRW.out.below (H3.out.trans (H4.out.mono H3.out.size))
              go_roundw
              case rel =>
                refine ⟨k + 1, by omega, by go_num, hr4.congr (fun y' x' hy' hx' => ?_), Lib.hid (((H3.out.trans (H4.out.mono H3.out.size)).block w.heap.size hvp).trans HVP.out), HBP.out.trans ((H3.out.trans (H4.out.mono H3.out.size)).mono hzp)⟩
                unfold fP
                rw [HSU.out y' x']
                have : (decide (c1 = (x' : Int)) && decide (c2 = (y' : Int))) = false := by
                  rw [Bool.eq_false_iff]
                  intro h
                  simp only [Bool.and_eq_true, decide_eq_true_eq] at h
                  exact HVN.out ⟨by omega, by omega, by omega, by omega⟩
                rw [this, Bool.or_false]
              case measure => simp [intOf]; omega
          · obtain rfl : n = k := by omega
            have o4 : wr.cell? ⟨w.heap.size, 4, none⟩ = some (.int .i64 (ht : Int)) := cell_of_row wr w.heap.size 4 _ 25 (0, 0) HVP.out
            obtain ⟨p, hp⟩ : ∃ p : Nat → Int × Int, (fun i => cellOf cx cy sc wd ht (f i)) = p := ⟨_, rfl⟩
            rw [hp] at HRW
            have HPP := Lib.hid hp
            simp only [hp]
            have hw1 : IntKind.i64.wrap ((ht : Int) - 1) = (ht : Int) - 1 := IntWalk.i64_in _ (by omega)
            obtain ⟨wo, rfl⟩ : ∃ wo : World, wo = wr := ⟨_, rfl⟩
            obtain ⟨i0, J0, J1, J2, J3⟩ := info_parts str_info
            clear hp
            go_wp2
            go_loopw [22, 23] (fun v x wq => ∃ j k : Nat, j + k = ht ∧ x = .int .i64 ((k : Int) - 1) ∧ wq.ownsRow wo.heap.size 9 1 v j ((List.range j).map fun i => .string (rowStr wd (fP p n (ht - 1 - i)))) ∧ Below wo.heap.size wo wq) (fun _ x _ => (intOf x + 1).toNat)
            case atStart => exact ⟨0, ht, by omega, rfl, World.ownsRow_nil _ _ _ _, Below.refl _ _⟩
            case round =>
              obtain ⟨j, k, hjk, rfl, hown, hbq⟩ := hrel
              obtain ⟨V, cv, rfl⟩ := own_shape hown
              have HOW := Lib.hid hown
              have HBQ := Lib.hid hbq
              have hzq := hbq.size
              clear hown hbq
              cases k with
              | zero =>
                obtain rfl : j = ht := by omega
                go_wp2
                go_ret2
                exact ⟨V, cv, rfl, by have hpp := HPP.out; subst hpp; exact own_mono HOW.out (by have := HBP.out.size; omega), HBP.out.trans (HBQ.out.mono HBP.out.size)⟩
              | succ yy =>
                have hxe : (((yy + 1 : Nat) : Int) - 1) = (yy : Int) := by omega
                rw [hxe]
                have hry := HRW.out.below HBQ.out
                have g0 := hry.cell (y := yy) (by omega)
                have hge : (0 : Int) ≤ (yy : Int) := by omega
                have h60 : (yy : Int) < 60 := by omega
                have hyl : yy < ht := by omega
                have hcv := run_convert_bytes_arg (P := Try.prog) wr 58 5 Try.underlying58 Try.underlying5 (G yy) 0 wd wd ((List.range wd).map (fP p n yy)) (by simp) (fun i hi => by rw [Nat.zero_add, ((hry.byt yy hyl).cell hi).1]; simp [List.getD, hi]) 9 Try.underlying9
                have hstr : strOfNums ((List.range wd).map (fP p n yy)) = rowStr wd (fP p n (ht - 1 - j)) := by
                  rw [show ht - 1 - j = yy by omega]; rfl
                rw [hstr] at hcv
                have HSN : Hid ((List.range (j + 1)).map (fun i => Value.string (rowStr wd (fP p n (ht - 1 - i)))) = ((List.range j).map fun i => Value.string (rowStr wd (fP p n (ht - 1 - i)))) ++ [Value.string (rowStr wd (fP p n (ht - 1 - j)))]) := Lib.hid (by rw [List.range_succ, List.map_append]; rfl)
                generalize rowStr wd (fP p n (ht - 1 - j)) = str at *
                clear hry hstr
                go_wp2_with (at_builtin; go_loud (refine wpList_append_oneN wr wr.heap.size rfl #[.string str] rfl (.tmp 122) (.tmp 127) 37 rfl wo.heap.size 9 i0 (.string ByteArray.empty) 1 16 Try.underlying37 J0 J1 J2 J3 rfl (by decide) (.slice V j cv) j _ rfl HOW.out rfl rfl (by simp [Value.oneCell']) (by omega) (by decide) (by omega) ?_); intro g3 cap3 w6 hv6 hg6 hat6 hlt6)
                go_roundw
                case rel => exact ⟨j + 1, yy, by omega, by go_num, by rw [HSN.out]; exact hv6, below_app HBQ.out hzq HOW.out (Nat.le_refl _) hg6⟩
                case measure => simp [intOf]
end Go.Proofs.Ytlkdjnmehnibmaa
