/- Package screen: Picture of polygons and points. -/
import Derived.Test.YtlkdjnmehnibmaaG2
import Derived.Deep.RegionHeld3
import Derived.Deep.DeepMust
namespace Go.Proofs.Ytlkdjnmehnibmaa
open Go.RowKit

set_option maxRecDepth 100000 in
set_option maxHeartbeats 8000000 in
theorem Picture_any (cx cy sc : Int) (wd ht : Nat) (L : Option Addr) (m cL : Nat) (N : Nat → Nat) (F : Nat → Nat → Int × Int) (A : Option Addr) (n c : Nat) (f : Nat → Int × Int) (w : World) (h1 : -1000000 ≤ cx) (h2 : cx ≤ 1000000) (h3 : -1000000 ≤ cy) (h4 : cy ≤ 1000000) (h5 : 1 ≤ sc) (h6 : sc ≤ 50000) (hb : sideE wd ht = 0)
    (hL : Polys w w.heap.size L m N F) (hm : m ≤ 12) (hA : Sl w w.heap.size 2 A n (ptRow f)) (hn : n ≤ 32) (hf : ∀ i, i < n → PtOk (f i)) :
    Calls Try.prog 13 #[.agg #[.int .i64 cx, .int .i64 cy, .int .i64 sc, .int .i64 wd, .int .i64 ht], .slice L m cL, .slice A n c] w fun e w' => ∃ A' c', e = .returned (.tuple #[.slice A' ht c', .int .i64 0]) ∧ w'.ownsRow w.heap.size 9 1 (.slice A' ht c') ht ((List.range ht).map fun k => .string (rowStr wd (picF (fun i k => cellOf cx cy sc wd ht (F i k)) N m (fun i => cellOf cx cy sc wd ht (f i)) n (ht - 1 - k)))) ∧ Below w.heap.size w w' := by
  have hs : 1 ≤ wd ∧ wd ≤ 60 ∧ 1 ≤ ht ∧ ht ≤ 60 := by
    unfold sideE at hb
    by_cases c : 1 ≤ (wd : Int) ∧ (wd : Int) ≤ 60 ∧ 1 ≤ (ht : Int) ∧ (ht : Int) ≤ 60
    · omega
    · rw [if_neg c] at hb; cases hb
  have hb1 : Below w.heap.size w (w.alloc (.cells #[.int .i64 cx, .int .i64 cy, .int .i64 sc, .int .i64 wd, .int .i64 ht] 25)) := (Below.refl _ _).alloc (Nat.le_refl _) _
  have HCK := Lib.hid (check_all cx cy sc wd ht L m cL N F A n c f _ h1 h2 h3 h4 h5 h6 hb ((hL.below hb1).more hb1.size) hm ((hA.below hb1).more hb1.size) hn hf)
  have HB1 := Lib.hid hb1
  have HA := Lib.hid hA
  have HF := Lib.hid hf
  obtain ⟨P, C, hL1, hL2⟩ := hL.ex
  have HL1 := Lib.hid hL1
  have HL2 := Lib.hid hL2
  have HLe := Lib.hid hL.le
  have HLo := Lib.hid hL.ok
  have m0 : (0 : Int) ≤ (m : Int) := by omega
  clear hL hL1 hL2
  have HV := Lib.hid (And.intro h1 (And.intro h2 (And.intro h3 (And.intro h4 (And.intro h5 h6)))))
  have n0 : (0 : Int) ≤ (n : Int) := by omega
  have w0 : (0 : Int) ≤ (wd : Int) := by omega
  have t0 : (0 : Int) ≤ (ht : Int) := by omega
  clear hb hb1 hA hf h1 h2 h3 h4 h5 h6
  go_enter Try.func13, Try.ntmps13
  go_wp2_with (go_at_call 25; go_loud (refine HCK.out.mono ?_; rintro e w1 ⟨rfl, hb2⟩; have hz2 := hb2.size; simp at hz2; have HB2 := Lib.hid (HB1.out.trans (hb2.mono (by simp))); have hV1 : w1.heap[w.heap.size]? = some (.cells #[.int .i64 cx, .int .i64 cy, .int .i64 sc, .int .i64 wd, .int .i64 ht] 25 (0, 0)) := (hb2.block w.heap.size (by simp)).trans (heap_alloc_new w _); have hvl : w.heap.size < w1.heap.size := (by omega); have va : ∀ o, (w1.alloc o).cell? ⟨w.heap.size, 4, none⟩ = some (.int .i64 (ht : Int)) := (fun o => (World.cell?_alloc_lt w1 o ⟨w.heap.size, 4, none⟩ hvl).trans (cell_of_row w1 w.heap.size 4 _ 25 (0, 0) hV1)); have HV1 := Lib.hid hV1; clear hb2 hV1))
  obtain ⟨NL, hNL⟩ : ∃ NL : Array Value, #[.slice none 0 0, .slice none 0 0, .slice none 0 0, .slice none 0 0, .slice none 0 0, .slice none 0 0, .slice none 0 0, .slice none 0 0, .slice none 0 0, .slice none 0 0, .slice none 0 0, .slice none 0 0, .slice none 0 0, .slice none 0 0, .slice none 0 0, .slice none 0 0, .slice none 0 0, .slice none 0 0, .slice none 0 0, .slice none 0 0, .slice none 0 0, .slice none 0 0, .slice none 0 0, .slice none 0 0, .slice none 0 0, .slice none 0 0, .slice none 0 0, .slice none 0 0, .slice none 0 0, .slice none 0 0, .slice none 0 0, .slice none 0 0, .slice none 0 0, .slice none 0 0, .slice none 0 0, .slice none 0 0, .slice none 0 0, .slice none 0 0, .slice none 0 0, .slice none 0 0, .slice none 0 0, .slice none 0 0, .slice none 0 0, .slice none 0 0, .slice none 0 0, .slice none 0 0, .slice none 0 0, .slice none 0 0, .slice none 0 0, .slice none 0 0, .slice none 0 0, .slice none 0 0, .slice none 0 0, .slice none 0 0, .slice none 0 0, .slice none 0 0, .slice none 0 0, .slice none 0 0, .slice none 0 0, .slice none 0 0] = NL := ⟨_, rfl⟩
  have hrep : NL = Array.replicate 60 (.slice none 0 0) := hNL.symm.trans rfl
  rw [hNL]
  have hR0 : Rows (w1.alloc (.cells NL 59)) w1.heap.size wd 0 (fun _ => 0) (fun _ _ => 32) :=
    ⟨⟨_, heap_alloc_new w1 _, fun y hy => absurd hy (by omega), fun y _ hy => by rw [hrep, Array.getElem?_replicate, if_pos hy]⟩, fun y hy => absurd hy (by omega), fun y z hy => absurd hy (by omega), fun y hy => absurd hy (by omega)⟩
  have hV0 : (w1.alloc (.cells NL 59)).heap[w.heap.size]? = some (.cells #[.int .i64 cx, .int .i64 cy, .int .i64 sc, .int .i64 wd, .int .i64 ht] 25 (0, 0)) := (Below.heap_alloc w1 _ w.heap.size hvl).trans HV1.out
  have HR0 := Lib.hid (And.intro hR0 (And.intro hV0 (HB2.out.alloc (by omega) (.cells NL 59))))
  clear hR0 hV0 hNL hrep va
  generalize hW0 : w1.alloc (.cells NL 59) = W0 at *
  obtain ⟨R, hR⟩ : ∃ R, w1.heap.size = R := ⟨_, rfl⟩
  rw [hR] at HR0
  simp only [hR]
  have hRl : w.heap.size < R := by omega
  clear hW0 hR HV1 HB1 HB2 HCK hz2 hvl
  have HRR : Hid (Rows W0 R wd 0 (fun _ => 0) (fun _ _ => 32)) := Lib.hid HR0.out.1
  have HVV : Hid (W0.heap[w.heap.size]? = some (.cells #[.int .i64 cx, .int .i64 cy, .int .i64 sc, .int .i64 wd, .int .i64 ht] 25 (0, 0))) := Lib.hid HR0.out.2.1
  have HBB : Hid (Below w.heap.size w W0) := Lib.hid HR0.out.2.2
  clear HR0
  have kc := fun (w : World) (C : Array Value) (n c : Nat) => Lib.run_convert_bytes_const (P := Try.prog) w 58 5 C n c Try.underlying58 Try.underlying5
  go_loopw [33] (fun x wr => ∃ (j : Nat) (G : Nat → Nat) (fr : Nat → Nat → Int), j ≤ ht ∧ x = .int .i64 j ∧ Rows wr R wd j G fr ∧ (∀ y, y < j → fr y = fun _ => 32) ∧ Hid (wr.heap[w.heap.size]? = some (.cells #[.int .i64 cx, .int .i64 cy, .int .i64 sc, .int .i64 wd, .int .i64 ht] 25 (0, 0))) ∧ Below w.heap.size w wr) (fun x _ => ht - (intOf x).toNat)
  case atStart => exact ⟨0, _, _, by omega, rfl, HRR.out, fun y hy => absurd hy (by omega), HVV, HBB.out⟩
  case round =>
    obtain ⟨j, G, fr, hj, rfl, hrows, hfr, HVW, hbw⟩ := hrel
    have HROWS := Lib.hid hrows
    have HFR := Lib.hid hfr
    have HBW := Lib.hid hbw
    have hz := hbw.size
    have hRW := hrows.lt
    have hvl : w.heap.size < wr.heap.size := by omega
    clear hrows hfr hbw
    by_cases hlt : j < ht
    · have v3 : wr.cell? ⟨w.heap.size, 3, none⟩ = some (.int .i64 (wd : Int)) := cell_of_row wr w.heap.size 3 _ 25 (0, 0) HVW.out
      have hne : w.heap.size ≠ wr.heap.size := by omega
      have hj0 : (0 : Int) ≤ (j : Int) := by omega
      have hjh : (j : Int) < (ht : Int) := by omega
      have hj60 : (j : Int) < 60 := by omega
      go_wp2_with (go_at_call 26; go_loud (refine (Repeat_blank wr.heap.size wd _ (by exact heap_alloc_new wr _) hs.1 hs.2.1).mono ?_; rintro e w2 ⟨rfl, hby, hb2⟩; have hrw2 := HROWS.out.below (((Below.refl _ wr).alloc (Nat.le_refl _) (.cells #[.int .u8 32] 5 (1, 2))).trans (hb2.mono (by simp))); obtain ⟨q1, q2⟩ := hrw2.free (y := j) (Nat.le_refl _) (by omega); have H2 := Lib.hid (And.intro hrw2 (And.intro hby hb2)); clear hrw2 hby hb2))
      go_roundw
      case rel =>
        have hpush := H2.out.1.push (by omega) (wr.alloc (.cells #[.int .u8 32] 5 (1, 2))).heap.size (fun y hy => by have := (HROWS.out.byt y hy).lt; simp; omega) (by simp; omega) (fun _ => 32) H2.out.2.1
        refine ⟨j + 1, _, _, by omega, by go_num, by simpa using hpush, fun y hy => ?_, Lib.hid ?_, ?_⟩
        · by_cases e : y = j
          · simp only [if_pos e]
          · simp only [if_neg e]; exact HFR.out y (by omega)
        · exact (heap_setCell_other _ _ _ _ (by show w.heap.size ≠ R; omega)).trans ((H2.out.2.2.block w.heap.size (by simp; omega)).trans ((Below.heap_alloc wr _ w.heap.size hvl).trans HVW.out))
        · exact (HBW.out.trans ((((Below.refl _ wr).alloc (Nat.le_refl _) _).trans (H2.out.2.2.mono (by simp))).mono hz)).setCell (p := ⟨R, j, none⟩) (Nat.le_of_lt hRl) _
      case measure => simp [intOf]; omega
    · obtain rfl : ht = j := by omega
      have hrc : Rows wr R wd ht G (allF (fun i k => cellOf cx cy sc wd ht (F i k)) N 0 (fun _ _ => 32)) := HROWS.out.congr (fun y x hy hx => by rw [HFR.out y hy]; rfl)
      have HRC := Lib.hid hrc
      obtain ⟨Q, hQ⟩ : ∃ Q : Nat → Nat → Int × Int, (fun i k => cellOf cx cy sc wd ht (F i k)) = Q := ⟨_, rfl⟩
      have hQi : ∀ i k, Q i k = cellOf cx cy sc wd ht (F i k) := fun i k => by rw [← hQ]
      have HQ := Lib.hid hQi
      rw [hQ] at HRC
      have HQE := Lib.hid hQ
      clear hrc hQ hQi
      have htl : ht < 61 := by omega
      go_wp2
      go_loopw [46] (fun x wp => ∃ i : Nat, i ≤ m ∧ x = .int .i64 (i : Int) ∧ Hid (Rows wp R wd ht G (allF Q N i (fun _ _ => 32))) ∧ Hid (wp.heap[w.heap.size]? = some (.cells #[.int .i64 cx, .int .i64 cy, .int .i64 sc, .int .i64 wd, .int .i64 ht] 25 (0, 0))) ∧ Hid (Below w.heap.size w wp)) (fun x _ => m - (intOf x).toNat)
      case atStart => exact ⟨0, by omega, rfl, HRC.out, HVW, HBW.out⟩
      case round =>
        obtain ⟨i, hi, rfl, HRi, HVi, HBi⟩ := hrel
        by_cases him : i < m
        · obtain ⟨bl, ol, rfl, hbl, hrl⟩ := HL1.out.one (by omega)
          have k0 : wr.cell? ⟨bl, ol + i, none⟩ = some (.slice (P i) (N i) (C i)) := (HBi.out.cell (p := ⟨bl, ol + i, none⟩) hbl).trans (hrl i him)
          have hPi := HL2.out i him
          have hNi := HLe.out i him
          have hOi := HLo.out i him
          have hQi := HQ.out i
          have hi0 : (0 : Int) ≤ (i : Int) := by omega
          have hiM : (i : Int) < (m : Int) := by omega
          have hwi : IntKind.i64.wrap ((i : Int) + 1) = (i : Int) + 1 := IntWalk.i64_in _ (by omega)
          have HPF : Hid (allF Q N (i + 1) (fun _ _ => 32) = polyF (Q i) (N i) (N i) (allF Q N i fun _ _ => 32)) := Lib.hid rfl
          obtain ⟨gi, hgi⟩ : ∃ gi, allF Q N i (fun _ _ => 32) = gi := ⟨_, rfl⟩
          rw [hgi] at HRi HPF
          obtain ⟨q, hq⟩ : ∃ q, Q i = q := ⟨_, rfl⟩
          rw [hq] at HPF hQi
          obtain ⟨F1, hF1⟩ : ∃ F1, F i = F1 := ⟨_, rfl⟩
          rw [hF1] at hPi hOi hQi
          obtain ⟨pn, hpn⟩ : ∃ pn, N i = pn := ⟨_, rfl⟩
          obtain ⟨pa, hpa⟩ : ∃ pa, P i = pa := ⟨_, rfl⟩
          obtain ⟨pc, hpc⟩ : ∃ pc, C i = pc := ⟨_, rfl⟩
          rw [hpn] at k0 hPi hNi hOi HPF
          rw [hpa] at k0 hPi
          rw [hpc] at k0
          have HPi := Lib.hid hPi
          have HOi := Lib.hid hOi
          have HQi := Lib.hid hQi
          have pn0 : (0 : Int) ≤ (pn : Int) := by omega
          have hbw0 : bl < wr.heap.size := by have := HBi.out.size; omega
          clear hpn hpa hpc hPi hOi hQi hrl hgi hq hF1
          obtain ⟨wo, rfl⟩ : ∃ wo : World, wo = wr := ⟨_, rfl⟩
          go_wp2_with fail
          go_loopw [52] (fun x wp => ∃ k : Nat, k ≤ pn ∧ x = .int .i64 (k : Int) ∧ Hid (Rows wp R wd ht G (polyF q pn k gi)) ∧ Hid (wp.heap[w.heap.size]? = some (.cells #[.int .i64 cx, .int .i64 cy, .int .i64 sc, .int .i64 wd, .int .i64 ht] 25 (0, 0))) ∧ Hid (Below w.heap.size w wp)) (fun x _ => pn - (intOf x).toNat)
          case atStart => exact ⟨0, by omega, rfl, HRi, HVi, HBi⟩
          case round =>
            obtain ⟨k, hk, rfl, HRk, HVk, HBk⟩ := hrel
            by_cases hkn : k < pn
            · obtain ⟨b, off, rfl, hbb, hr⟩ := pt_cells HPi.out (by omega)
              obtain ⟨r0, r1⟩ := hr k hkn
              obtain ⟨k2, hk2⟩ : ∃ k2, (k + 1) % pn = k2 := ⟨_, rfl⟩
              have hk2l : k2 < pn := by rw [← hk2]; exact Nat.mod_lt _ (by omega)
              obtain ⟨s0, s1⟩ := hr k2 hk2l
              have o0 := (HBk.out.cell (p := ⟨b, off + k * 2, none⟩) hbb).trans r0
              have o1 := (HBk.out.cell (p := ⟨b, off + k * 2 + 1, none⟩) hbb).trans r1
              have l0 := (HBk.out.cell (p := ⟨b, off + k2 * 2, none⟩) hbb).trans s0
              have l1 := (HBk.out.cell (p := ⟨b, off + k2 * 2 + 1, none⟩) hbb).trans s1
              obtain ⟨p1, p2, p3, p4⟩ := HOi.out k hkn
              obtain ⟨p5, p6, p7, p8⟩ := HOi.out k2 hk2l
              obtain ⟨z1, z2, z3, z4, z5, z6⟩ := HV.out
              have HCa := Lib.hid (fun W => cell_any cx cy sc wd ht (F1 k).1 (F1 k).2 W (by omega) (by omega) ⟨z5, z6⟩ (by omega) (by omega))
              have HCb := Lib.hid (fun W => cell_any cx cy sc wd ht (F1 k2).1 (F1 k2).2 W (by omega) (by omega) ⟨z5, z6⟩ (by omega) (by omega))
              have e1 : q k = (((F1 k).1 - cx) / sc + (wd : Int) / 2, ((F1 k).2 - cy) / sc + (ht : Int) / 2) := HQi.out k
              have e2 : q k2 = (((F1 k2).1 - cx) / sc + (wd : Int) / 2, ((F1 k2).2 - cy) / sc + (ht : Int) / 2) := HQi.out k2
              have HEd : Hid (polyF q pn (k + 1) gi = fM 46 (lnCells (q k) (q k2)) (lnCnt (q k) (q k2)) (polyF q pn k gi)) := Lib.hid (by rw [← hk2]; rfl)
              obtain ⟨hLS, hcnt⟩ := Line_S (q k) (q k2)
              rw [e1, e2] at HEd hLS hcnt
              have HLS := Lib.hid hLS
              have HCnt := Lib.hid hcnt
              have HCd : Hid (lnCode (q k) (q k2) = 0 ∨ (lnCode (q k) (q k2) = 4 ∧ lnCnt (q k) (q k2) = 0)) := Lib.hid (by unfold lnCode lnCnt; cases lnFar (q k) (q k2) with | true => right; exact ⟨rfl, rfl⟩ | false => left; rfl)
              rw [e1, e2] at HCd
              obtain ⟨cnt, hcn⟩ : ∃ cnt, lnCnt (((F1 k).1 - cx) / sc + (wd : Int) / 2, ((F1 k).2 - cy) / sc + (ht : Int) / 2) (((F1 k2).1 - cx) / sc + (wd : Int) / 2, ((F1 k2).2 - cy) / sc + (ht : Int) / 2) = cnt := ⟨_, rfl⟩
              obtain ⟨cod, hcd⟩ : ∃ cod, lnCode (((F1 k).1 - cx) / sc + (wd : Int) / 2, ((F1 k).2 - cy) / sc + (ht : Int) / 2) (((F1 k2).1 - cx) / sc + (wd : Int) / 2, ((F1 k2).2 - cy) / sc + (ht : Int) / 2) = cod := ⟨_, rfl⟩
              obtain ⟨cs, hcs⟩ : ∃ cs, lnCells (((F1 k).1 - cx) / sc + (wd : Int) / 2, ((F1 k).2 - cy) / sc + (ht : Int) / 2) (((F1 k2).1 - cx) / sc + (wd : Int) / 2, ((F1 k2).2 - cy) / sc + (ht : Int) / 2) = cs := ⟨_, rfl⟩
              rw [hcn, hcs] at HEd
              rw [hcn, hcd] at HCd
              rw [hcn, hcd, hcs] at HLS
              rw [hcn] at HCnt
              clear hcn hcd hcs e1 e2 hLS hcnt
              generalize ((F1 k).1 - cx) / sc + (wd : Int) / 2 = c1 at *
              generalize ((F1 k).2 - cy) / sc + (ht : Int) / 2 = c2 at *
              generalize ((F1 k2).1 - cx) / sc + (wd : Int) / 2 = c3 at *
              generalize ((F1 k2).2 - cy) / sc + (ht : Int) / 2 = c4 at *
              generalize (F1 k).1 = x1 at *
              generalize (F1 k).2 = y1 at *
              generalize (F1 k2).1 = x2 at *
              generalize (F1 k2).2 = y2 at *
              have hrem : ((k : Int) + 1).tmod (pn : Int) = (k2 : Int) := by
                rw [← hk2, Int.tmod_eq_emod_of_nonneg (by omega)]
                exact (Int.natCast_emod (k + 1) pn).symm
              have hwk : IntKind.i64.wrap ((k : Int) + 1) = (k : Int) + 1 := IntWalk.i64_in _ (by omega)
              have hwk2 : IntKind.i64.wrap (k2 : Int) = (k2 : Int) := IntWalk.i64_in _ (by omega)
              have hpz : ((pn : Int) == 0) = false := beq_eq_false_iff_ne.2 (by omega)
              have hpz2 : (((k : Int) + 1) == -9223372036854775808) = false := beq_eq_false_iff_ne.2 (by omega)
              have hpz3 : ¬ pn = 0 := by omega
              have hk0 : (0 : Int) ≤ (k : Int) := by omega
              have hkn' : (k : Int) < (pn : Int) := by omega
              have hk20 : (0 : Int) ≤ (k2 : Int) := by omega
              have hk2n : (k2 : Int) < (pn : Int) := by omega
              have hzk := HBk.out.size
              have hbw : b < wr.heap.size := by omega
              have hvp : w.heap.size < wr.heap.size := by have := HRk.out.lt; omega
              have hnv : w.heap.size ≠ wr.heap.size := by omega
              clear hr r0 r1 s0 s1 p1 p2 p3 p4 p5 p6 p7 p8 z1 z2 z3 z4 z5 z6 hk2 k0
              go_wp2_with fail
              obtain ⟨w3, hw3⟩ : ∃ w3, wr.alloc (.cells #[.int .i64 x1, .int .i64 y1] 23) = w3 := ⟨_, rfl⟩
              have hb3 : Below wr.heap.size wr w3 := by rw [← hw3]; exact (Below.refl _ wr).alloc (Nat.le_refl _) _
              have hn3 : w3.heap[wr.heap.size]? = some (.cells #[.int .i64 x1, .int .i64 y1] 23 (0, 0)) := by rw [← hw3]; exact heap_alloc_new wr _
              rw [hw3]
              have HB3 := Lib.hid hb3
              have hl3 : wr.heap.size < w3.heap.size := (Array.getElem?_eq_some_iff.1 hn3).1
              have HH := Lib.hid (show w.heap.size < w3.heap.size ∧ w.heap.size < w3.heap.size ∧ w.heap.size < w3.heap.size ∧ w.heap.size < w3.heap.size ∧ w.heap.size < w3.heap.size ∧ wr.heap.size < w3.heap.size ∧ wr.heap.size < w3.heap.size ∧ b < w3.heap.size ∧ b < w3.heap.size by omega)
              have hV3 : w3.heap[w.heap.size]? = some (.cells #[.int .i64 cx, .int .i64 cy, .int .i64 sc, .int .i64 wd, .int .i64 ht] 25 (0, 0)) := (hb3.block w.heap.size hvp).trans HVk.out
              obtain ⟨gb, hgb⟩ : ∃ gb, wr.heap.size = gb := ⟨_, rfl⟩
              have HS0 := Lib.hid (show Below w3.heap.size w3 w3 ∧ w3.cell? ⟨w.heap.size, 0, none⟩ = some (.int .i64 cx) ∧ w3.cell? ⟨w.heap.size, 1, none⟩ = some (.int .i64 cy) ∧ w3.cell? ⟨w.heap.size, 2, none⟩ = some (.int .i64 sc) ∧ w3.cell? ⟨w.heap.size, 3, none⟩ = some (.int .i64 (wd : Int)) ∧ w3.cell? ⟨w.heap.size, 4, none⟩ = some (.int .i64 (ht : Int)) ∧ w3.cell? ⟨wr.heap.size, 0, none⟩ = some (.int .i64 x1) ∧ w3.cell? ⟨wr.heap.size, 1, none⟩ = some (.int .i64 y1) ∧ w3.cell? ⟨b, off + k2 * 2, none⟩ = some (.int .i64 x2) ∧ w3.cell? ⟨b, off + k2 * 2 + 1, none⟩ = some (.int .i64 y2) from
                ⟨Below.refl _ _, cell_of_row w3 w.heap.size 0 _ 25 (0, 0) hV3, cell_of_row w3 w.heap.size 1 _ 25 (0, 0) hV3, cell_of_row w3 w.heap.size 2 _ 25 (0, 0) hV3, cell_of_row w3 w.heap.size 3 _ 25 (0, 0) hV3, cell_of_row w3 w.heap.size 4 _ 25 (0, 0) hV3, cell_of_row w3 wr.heap.size 0 _ 23 (0, 0) hn3, cell_of_row w3 wr.heap.size 1 _ 23 (0, 0) hn3, (hb3.cell (p := ⟨b, off + k2 * 2, none⟩) hbw).trans l0, (hb3.cell (p := ⟨b, off + k2 * 2 + 1, none⟩) hbw).trans l1⟩)
              have HZ3 := Lib.hid hgb
              rw [hgb] at HS0 HH ⊢
              clear hw3 hb3 hn3 hV3 o0 o1 l0 l1 hgb
              have hs0 : Below w3.heap.size w3 w3.drew ∧ w3.drew.cell? ⟨w.heap.size, 0, none⟩ = some (.int .i64 cx) ∧ w3.drew.cell? ⟨w.heap.size, 1, none⟩ = some (.int .i64 cy) ∧ w3.drew.cell? ⟨w.heap.size, 2, none⟩ = some (.int .i64 sc) ∧ w3.drew.cell? ⟨w.heap.size, 3, none⟩ = some (.int .i64 (wd : Int)) ∧ w3.drew.cell? ⟨w.heap.size, 4, none⟩ = some (.int .i64 (ht : Int)) ∧ w3.drew.cell? ⟨gb, 0, none⟩ = some (.int .i64 x1) ∧ w3.drew.cell? ⟨gb, 1, none⟩ = some (.int .i64 y1) ∧ w3.drew.cell? ⟨b, off + k2 * 2, none⟩ = some (.int .i64 x2) ∧ w3.drew.cell? ⟨b, off + k2 * 2 + 1, none⟩ = some (.int .i64 y2) := ⟨(Below.refl _ _).drew, HS0.out.2⟩
              have tok1 : True := trivial
              go_region_held3 (fun W => Below w3.heap.size w3 W ∧ W.cell? ⟨w.heap.size, 0, none⟩ = some (.int .i64 cx) ∧ W.cell? ⟨w.heap.size, 1, none⟩ = some (.int .i64 cy) ∧ W.cell? ⟨w.heap.size, 2, none⟩ = some (.int .i64 sc) ∧ W.cell? ⟨w.heap.size, 3, none⟩ = some (.int .i64 (wd : Int)) ∧ W.cell? ⟨w.heap.size, 4, none⟩ = some (.int .i64 (ht : Int)) ∧ W.cell? ⟨gb, 0, none⟩ = some (.int .i64 x1) ∧ W.cell? ⟨gb, 1, none⟩ = some (.int .i64 y1) ∧ W.cell? ⟨b, off + k2 * 2, none⟩ = some (.int .i64 x2) ∧ W.cell? ⟨b, off + k2 * 2 + 1, none⟩ = some (.int .i64 y2)) (first | assumption | exact sv_below HH.out (by assumption) (by assumption)) (first
                | (go_at_call 23; have _t := tok1; go_loud (refine (HCa.out _).mono ?_; rintro e w5 ⟨rfl, hb5⟩; have B5 := And.intro trivial hb5; clear hb5 tok1 _t))
                | (go_at_call 23; go_loud (refine (HCb.out _).mono ?_; rintro e w6 ⟨rfl, hb6⟩; have B6 := And.intro trivial hb6; clear hb6))
                | (go_at_call 15; go_loud (refine (HLS.out _).mono ?_; rintro e w7 ⟨A7, c7, rfl, ho7, hb7⟩; have B7 := And.intro trivial hb7; have O7 := And.intro trivial ho7; clear hb7 ho7)))
              have HB7 := Lib.hid (show Below w3.heap.size w3 w7 from And.left (by assumption))
              have HBW := Lib.hid (show Below wr.heap.size wr w7 from HB3.out.trans (HB7.out.mono HB3.out.size))
              have HR7 := Lib.hid (HRk.out.below HBW.out)
              have HV7 : Hid (w7.heap[w.heap.size]? = some (.cells #[.int .i64 cx, .int .i64 cy, .int .i64 sc, .int .i64 wd, .int .i64 ht] 25 (0, 0))) := Lib.hid ((HBW.out.block w.heap.size hvp).trans HVk.out)
              have HB70 := Lib.hid (HBk.out.trans (HBW.out.mono hzk))
              have HLn := Lib.hid (LineAt.of_own (Z := wr.heap.size) O7.2 (by
                have h1 := B6.2.size
                have h2 : w3.heap.size ≤ w5.heap.size := B5.2.size
                have h3 := HB3.out.size
                omega))
              have hGz : ∀ y, y < ht → G y < wr.heap.size := fun y hy => (HRk.out.byt y hy).lt
              have HGz := Lib.hid hGz
              have hz7 := HB70.out.size
              clear hGz B5 B6 B7 O7 HCa HCb HLS HS0 hs0
              have hor := HCd.out
              rcases hor with hc0 | ⟨hc4, hc5⟩
              · subst hc0
                have hct0 : (0 : Int) ≤ (cnt : Int) := by omega
                obtain ⟨gk, hgk⟩ : ∃ gk, polyF q pn k gi = gk := ⟨_, rfl⟩
                rw [hgk] at HR7 HEd
                have HCT := HCnt.out
                obtain ⟨Z, hZ⟩ : ∃ Z, wr.heap.size = Z := ⟨_, rfl⟩
                rw [hZ] at HLn HGz
                clear hgk hZ HCd
                go_wp2_with fail
                go_loopw [78] (fun x wp => ∃ t : Nat, t ≤ cnt ∧ x = .int .i64 (t : Int) ∧ Hid (Rows wp R wd ht G (fM 46 cs t gk)) ∧ Hid (wp.heap[w.heap.size]? = some (.cells #[.int .i64 cx, .int .i64 cy, .int .i64 sc, .int .i64 wd, .int .i64 ht] 25 (0, 0))) ∧ Hid (Below w.heap.size w wp) ∧ Hid (LineAt wp Z A7 cnt cs)) (fun x _ => cnt - (intOf x).toNat)
                case atStart => exact ⟨0, by omega, rfl, by rw [fM_zero]; exact HR7, HV7, HB70, HLn⟩
                case round =>
                  obtain ⟨t, htc, rfl, HRt, HVt, HBt, HLt⟩ := hrel
                  by_cases htl2 : t < cnt
                  · obtain ⟨gl, rfl, hgl1, hgl2, c0, c1'⟩ := HLt.out t htl2
                    have HF1 := Lib.hid (show ∀ xx yy : Nat, (cs t).1 = (xx : Int) → (cs t).2 = (yy : Int) → ∀ y x, (if y = yy ∧ x = xx then 46 else fM 46 cs t gk y x) = fM 46 cs (t + 1) gk y x from fun xx yy h1 h2 => fM_seen h1 h2)
                    have HF2 := Lib.hid (show ¬ (0 ≤ (cs t).1 ∧ (cs t).1 < (wd : Int) ∧ 0 ≤ (cs t).2 ∧ (cs t).2 < (ht : Int)) → ∀ y x, y < ht → x < wd → fM 46 cs t gk y x = fM 46 cs (t + 1) gk y x from fun h => fM_hid h)
                    obtain ⟨d1, hd1⟩ : ∃ d1, (cs t).1 = d1 := ⟨_, rfl⟩
                    obtain ⟨d2, hd2⟩ : ∃ d2, (cs t).2 = d2 := ⟨_, rfl⟩
                    rw [hd1] at c0 HF1 HF2
                    rw [hd2] at c1' HF1 HF2
                    clear hd1 hd2
                    have HVI := Lib.hid (fun W => visible_any cx cy sc wd ht d1 d2 W)
                    have v0 : wr.cell? ⟨w.heap.size, 0, none⟩ = some (.int .i64 cx) := cell_of_row wr w.heap.size 0 _ 25 (0, 0) HVt.out
                    have v1 : wr.cell? ⟨w.heap.size, 1, none⟩ = some (.int .i64 cy) := cell_of_row wr w.heap.size 1 _ 25 (0, 0) HVt.out
                    have v2 : wr.cell? ⟨w.heap.size, 2, none⟩ = some (.int .i64 sc) := cell_of_row wr w.heap.size 2 _ 25 (0, 0) HVt.out
                    have v3 : wr.cell? ⟨w.heap.size, 3, none⟩ = some (.int .i64 (wd : Int)) := cell_of_row wr w.heap.size 3 _ 25 (0, 0) HVt.out
                    have v4 : wr.cell? ⟨w.heap.size, 4, none⟩ = some (.int .i64 (ht : Int)) := cell_of_row wr w.heap.size 4 _ 25 (0, 0) HVt.out
                    have hzt := HBt.out.size
                    have hvt : w.heap.size < wr.heap.size := by have := HRt.out.lt; omega
                    have hnt : w.heap.size ≠ wr.heap.size := by omega
                    have ht0 : (0 : Int) ≤ (t : Int) := by omega
                    have htn' : (t : Int) < (cnt : Int) := by omega
                    have hwt : IntKind.i64.wrap ((t : Int) + 1) = (t : Int) + 1 := IntWalk.i64_in _ (by omega)
                    have hgr : gl < wr.heap.size := hgl2
                    cases hvb : visB wd ht d1 d2 with
                    | true =>
                      have HVB := Lib.hid hvb
                      have hvv : 0 ≤ d1 ∧ d1 < (wd : Int) ∧ 0 ≤ d2 ∧ d2 < (ht : Int) := of_decide_eq_true hvb
                      clear hvb
                      obtain ⟨xx, hxx⟩ : ∃ xx : Nat, d1 = xx := ⟨d1.toNat, by omega⟩
                      obtain ⟨yy, hyy⟩ : ∃ yy : Nat, d2 = yy := ⟨d2.toNat, by omega⟩
                      subst hxx hyy
                      have hxl : xx < wd := by omega
                      have hyl : yy < ht := by omega
                      go_wp2_with (go_at_call 24; go_loud (refine (HVI.out _).mono ?_; rintro e w4 ⟨he4, hb4⟩; rw [HVB.out] at he4; subst he4; have H4 := Lib.hid (((Below.refl _ wr).alloc (Nat.le_refl _) (.cells #[.int .i64 (xx : Int), .int .i64 (yy : Int)] 27)).trans (hb4.mono (by simp))); have hT : w4.heap[wr.heap.size]? = some (.cells #[.int .i64 (xx : Int), .int .i64 (yy : Int)] 27 (0, 0)) := (hb4.block wr.heap.size (by simp)).trans (heap_alloc_new wr _); have HT := Lib.hid hT; have hz4 := hb4.size; simp at hz4; clear hb4 hT))
                      have hr4 := HRt.out.below H4.out
                      have q9 := hr4.cell (y := yy) hyl
                      obtain ⟨g1, g2⟩ := (hr4.byt yy hyl).cell hxl
                      have q0 : w4.cell? ⟨wr.heap.size, 0, none⟩ = some (.int .i64 (xx : Int)) := cell_of_row w4 wr.heap.size 0 _ 27 (0, 0) HT.out
                      have q1 : w4.cell? ⟨wr.heap.size, 1, none⟩ = some (.int .i64 (yy : Int)) := cell_of_row w4 wr.heap.size 1 _ 27 (0, 0) HT.out
                      have y0 : (0 : Int) ≤ (yy : Int) := by omega
                      have y60 : (yy : Int) < 60 := by omega
                      have x0 : (0 : Int) ≤ (xx : Int) := by omega
                      have xw : (xx : Int) < (wd : Int) := by omega
                      have hmk := hr4.mark (x := xx) hyl 46
                      have hfar := hr4.far yy hyl
                      have HMK := Lib.hid hmk
                      have HGZ := Lib.hid (HGz.out yy hyl)
                      have HB4 := Lib.hid (HBt.out.trans (H4.out.mono hzt))
                      have HLt4 := Lib.hid (HLt.out.below H4.out)
                      have HVP4 : Hid (w4.heap[w.heap.size]? = some (.cells #[.int .i64 cx, .int .i64 cy, .int .i64 sc, .int .i64 wd, .int .i64 ht] 25 (0, 0))) := Lib.hid ((H4.out.block w.heap.size hvt).trans HVt.out)
                      clear hr4 hmk v0 v1 v2 v3 v4 c0 c1'
                      go_still_tail 7, (by kernel_rfl)
                      change wpList _ _ _ _ _ w4.drew
                      go_wp2
                      go_roundw
                      case rel =>
                        refine ⟨t + 1, by omega, by go_num, (HMK.out.congr (fun y' x' _ _ => HF1.out xx yy rfl rfl y' x')).drewN 1, Lib.hid ?_, Lib.hid ((HB4.out.setCell (p := ⟨G yy, xx, none⟩) (by show w.heap.size ≤ G yy; omega) _).drew), Lib.hid ?_⟩
                        · exact (heap_setCell_other _ _ _ _ (by show w.heap.size ≠ G yy; omega)).trans HVP4.out
                        · exact HLt4.out.set _ HGZ.out
                      case measure => simp [intOf]; omega
                    | false =>
                      have HVB := Lib.hid hvb
                      have hvv : ¬ (0 ≤ d1 ∧ d1 < (wd : Int) ∧ 0 ≤ d2 ∧ d2 < (ht : Int)) := of_decide_eq_false hvb
                      have HVN := Lib.hid hvv
                      clear hvb hvv
                      go_wp2_with (go_at_call 24; go_loud (refine (HVI.out _).mono ?_; rintro e w4 ⟨he4, hb4⟩; rw [HVB.out] at he4; subst he4; have H4 := Lib.hid (((Below.refl _ wr).alloc (Nat.le_refl _) (.cells #[.int .i64 d1, .int .i64 d2] 27)).trans (hb4.mono (by simp))); have hT : w4.heap[wr.heap.size]? = some (.cells #[.int .i64 d1, .int .i64 d2] 27 (0, 0)) := (hb4.block wr.heap.size (by simp)).trans (heap_alloc_new wr _); have HT := Lib.hid hT; have hz4 := hb4.size; simp at hz4; clear hb4 hT))
                      have hr4 := HRt.out.below H4.out
                      go_roundw
                      case rel =>
                        exact ⟨t + 1, by omega, by go_num, hr4.congr (fun y' x' hy' hx' => HF2.out HVN.out y' x' hy' hx'), (H4.out.block w.heap.size hvt).trans HVt.out, HBt.out.trans (H4.out.mono hzt), HLt.out.below H4.out⟩
                      case measure => simp [intOf]; omega
                  · obtain rfl : t = cnt := by omega
                    have hwk3 := hwk
                    go_wp2_with fail
                    go_roundw
                    case rel => exact ⟨k + 1, by omega, by go_num, by rw [HEd.out]; exact HRt, HVt, HBt⟩
                    case measure => simp [intOf]; omega
              · subst hc4
                go_wp2_with fail
                go_roundw
                case rel => exact ⟨k + 1, by omega, by go_num, by rw [HEd.out, hc5, fM_zero]; exact HR7, HV7, HB70⟩
                case measure => simp [intOf]; omega
            · obtain rfl : k = pn := by omega
              go_wp2_with fail
              go_roundw
              case rel => exact ⟨i + 1, by omega, by go_num, by rw [HPF.out]; exact HRk, HVk, HBk⟩
              case measure => simp [intOf]; omega
        · obtain rfl : i = m := by omega
          go_wp2
          obtain ⟨gq, hg0⟩ : ∃ gq, allF Q N i (fun _ _ => 32) = gq := ⟨_, rfl⟩
          rw [hg0] at HRi
          have HG0 := Lib.hid hg0
          clear hg0
          go_loopw [97] (fun x wp => ∃ k : Nat, k ≤ n ∧ x = .int .i64 k ∧ Rows wp R wd ht G (fM 111 (fun i => cellOf cx cy sc wd ht (f i)) k gq) ∧ Hid (wp.heap[w.heap.size]? = some (.cells #[.int .i64 cx, .int .i64 cy, .int .i64 sc, .int .i64 wd, .int .i64 ht] 25 (0, 0))) ∧ Below w.heap.size w wp) (fun x _ => n - (intOf x).toNat)
          case atStart => exact ⟨0, by omega, rfl, by rw [fM_zero]; exact HRi.out, HVi, HBi.out⟩
          case round =>
            obtain ⟨k, hk, rfl, hrows, HVP, hbp⟩ := hrel
            have HRW := Lib.hid hrows
            have HBP := Lib.hid hbp
            have hzp := hbp.size
            have hRp := hrows.lt
            have hvp : w.heap.size < wr.heap.size := by omega
            clear hrows hbp
            by_cases hkn : k < n
            · obtain ⟨b, off, rfl, hbl, hr⟩ := pt_cells HA.out (by omega)
              obtain ⟨r0, r1⟩ := hr k hkn
              have o0 := (HBP.out.cell (p := ⟨b, off + k * 2, none⟩) hbl).trans r0
              have o1 := (HBP.out.cell (p := ⟨b, off + k * 2 + 1, none⟩) hbl).trans r1
              obtain ⟨p1, p2, p3, p4⟩ := HF.out k hkn
              obtain ⟨z1, z2, z3, z4, z5, z6⟩ := HV.out
              have hce := fun W => cell_any cx cy sc wd ht (f k).1 (f k).2 W (by omega) (by omega) ⟨z5, z6⟩ (by omega) (by omega)
              have hcc : cellOf cx cy sc wd ht (f k) = (((f k).1 - cx) / sc + (wd : Int) / 2, ((f k).2 - cy) / sc + (ht : Int) / 2) := rfl
              have hsu := fun y x => hit_succ (fun i => cellOf cx cy sc wd ht (f i)) k y x
              simp only [hcc] at hsu
              generalize ((f k).1 - cx) / sc + (wd : Int) / 2 = c1 at *
              generalize ((f k).2 - cy) / sc + (ht : Int) / 2 = c2 at *
              generalize (f k).1 = x at *
              generalize (f k).2 = y at *
              have HCE := Lib.hid hce
              have HSU := Lib.hid hsu
              have HVI := Lib.hid (fun W => visible_any cx cy sc wd ht c1 c2 W)
              have v0 : wr.cell? ⟨w.heap.size, 0, none⟩ = some (.int .i64 cx) := cell_of_row wr w.heap.size 0 _ 25 (0, 0) HVP.out
              have v1 : wr.cell? ⟨w.heap.size, 1, none⟩ = some (.int .i64 cy) := cell_of_row wr w.heap.size 1 _ 25 (0, 0) HVP.out
              have v2 : wr.cell? ⟨w.heap.size, 2, none⟩ = some (.int .i64 sc) := cell_of_row wr w.heap.size 2 _ 25 (0, 0) HVP.out
              have v3 : wr.cell? ⟨w.heap.size, 3, none⟩ = some (.int .i64 (wd : Int)) := cell_of_row wr w.heap.size 3 _ 25 (0, 0) HVP.out
              have v4 : wr.cell? ⟨w.heap.size, 4, none⟩ = some (.int .i64 (ht : Int)) := cell_of_row wr w.heap.size 4 _ 25 (0, 0) HVP.out
              have hnv : w.heap.size ≠ wr.heap.size := by omega
              have hk0 : (0 : Int) ≤ (k : Int) := by omega
              have hkn' : (k : Int) < (n : Int) := by omega
              have hbw : b < wr.heap.size := by omega
              clear hr r0 r1 p1 p2 p3 p4 z1 z2 z3 z4 z5 z6 hce hcc hsu
              cases hvb : visB wd ht c1 c2 with
              | true =>
                have HVB := Lib.hid hvb
                have hvv : 0 ≤ c1 ∧ c1 < (wd : Int) ∧ 0 ≤ c2 ∧ c2 < (ht : Int) := of_decide_eq_true hvb
                clear hvb
                obtain ⟨xx, hxx⟩ : ∃ xx : Nat, c1 = xx := ⟨c1.toNat, by omega⟩
                obtain ⟨yy, hyy⟩ : ∃ yy : Nat, c2 = yy := ⟨c2.toNat, by omega⟩
                subst hxx hyy
                have hxl : xx < wd := by omega
                have hyl : yy < ht := by omega
                go_wp2_with (first
                  | (go_at_call 23; go_loud (refine (HCE.out _).mono ?_; rintro e w3 ⟨rfl, hb3⟩; have hz3 := hb3.size; simp at hz3; have hb3' : Below wr.heap.size wr w3 := ((Below.refl _ wr).alloc (Nat.le_refl _) _).trans (hb3.mono (by simp)); have u0 := (hb3'.cell (p := ⟨w.heap.size, 0, none⟩) hvp).trans v0; have u1 := (hb3'.cell (p := ⟨w.heap.size, 1, none⟩) hvp).trans v1; have u2 := (hb3'.cell (p := ⟨w.heap.size, 2, none⟩) hvp).trans v2; have u3 := (hb3'.cell (p := ⟨w.heap.size, 3, none⟩) hvp).trans v3; have u4 := (hb3'.cell (p := ⟨w.heap.size, 4, none⟩) hvp).trans v4; have hn3 : w.heap.size < w3.heap.size := (by omega); have hn3' : w.heap.size ≠ w3.heap.size := (by omega); have H3 := Lib.hid hb3'; clear hb3 hb3'))
                  | (go_at_call 24; go_loud (refine (HVI.out _).mono ?_; rintro e w4 ⟨he4, hb4⟩; rw [HVB.out] at he4; subst he4; have H4 := Lib.hid (((Below.refl _ w3).alloc (Nat.le_refl _) (.cells #[.int .i64 (xx : Int), .int .i64 (yy : Int)] 27)).trans (hb4.mono (by simp))); have hT : w4.heap[w3.heap.size]? = some (.cells #[.int .i64 (xx : Int), .int .i64 (yy : Int)] 27 (0, 0)) := (hb4.block w3.heap.size (by simp)).trans (heap_alloc_new w3 _); have HT := Lib.hid hT; have hz4 := hb4.size; simp at hz4; clear hb4 hT)))
                have hr4 := HRW.out.below (H3.out.trans (H4.out.mono H3.out.size))
                have g0 := hr4.cell (y := yy) hyl
                obtain ⟨g1, g2⟩ := (hr4.byt yy hyl).cell hxl
                have q0 : w4.cell? ⟨w3.heap.size, 0, none⟩ = some (.int .i64 (xx : Int)) := cell_of_row w4 w3.heap.size 0 _ 27 (0, 0) HT.out
                have q1 : w4.cell? ⟨w3.heap.size, 1, none⟩ = some (.int .i64 (yy : Int)) := cell_of_row w4 w3.heap.size 1 _ 27 (0, 0) HT.out
                have y0 : (0 : Int) ≤ (yy : Int) := by omega
                have y60 : (yy : Int) < 60 := by omega
                have x0 : (0 : Int) ≤ (xx : Int) := by omega
                have xw : (xx : Int) < (wd : Int) := by omega
                have hmk := hr4.mark (x := xx) hyl 111
                have hfar := hr4.far yy hyl
                have HMK := Lib.hid hmk
                have HB4 := Lib.hid (HBP.out.trans ((H3.out.trans (H4.out.mono H3.out.size)).mono hzp))
                have HVP4 : Hid (w4.heap[w.heap.size]? = some (.cells #[.int .i64 cx, .int .i64 cy, .int .i64 sc, .int .i64 wd, .int .i64 ht] 25 (0, 0))) := Lib.hid (((H3.out.trans (H4.out.mono H3.out.size)).block w.heap.size hvp).trans HVP.out)
                clear hr4 hmk v0 v1 v2 v3 v4 u0 u1 u2 u3 u4 o0 o1
                go_still_tail 7, (by kernel_rfl)
                change wpList _ _ _ _ _ w4.drew
                go_wp2
                go_roundw
                case rel =>
                  refine ⟨k + 1, by omega, by go_num, (HMK.out.congr (fun y' x' hy' hx' => ?_)).drewN 1, Lib.hid ?_, (HB4.out.setCell (p := ⟨G yy, xx, none⟩) (by show w.heap.size ≤ G yy; omega) _).drew⟩
                  · unfold fM
                    rw [HSU.out y' x']
                    by_cases e : y' = yy ∧ x' = xx
                    · obtain ⟨rfl, rfl⟩ := e
                      simp
                    · rw [if_neg e]
                      have : (decide ((xx : Int) = (x' : Int)) && decide ((yy : Int) = (y' : Int))) = false := by
                        rw [Bool.eq_false_iff]
                        intro h
                        simp only [Bool.and_eq_true, decide_eq_true_eq] at h
                        exact e ⟨by omega, by omega⟩
                      rw [this, Bool.or_false]
                  · exact (heap_setCell_other _ _ _ _ (by show w.heap.size ≠ G yy; omega)).trans HVP4.out
                case measure => simp [intOf]; omega
              | false =>
                have HVB := Lib.hid hvb
                have hvv : ¬ (0 ≤ c1 ∧ c1 < (wd : Int) ∧ 0 ≤ c2 ∧ c2 < (ht : Int)) := of_decide_eq_false hvb
                have HVN := Lib.hid hvv
                clear hvb hvv
                go_wp2_with (first
                  | (go_at_call 23; go_loud (refine (HCE.out _).mono ?_; rintro e w3 ⟨rfl, hb3⟩; have hz3 := hb3.size; simp at hz3; have hb3' : Below wr.heap.size wr w3 := ((Below.refl _ wr).alloc (Nat.le_refl _) _).trans (hb3.mono (by simp)); have u0 := (hb3'.cell (p := ⟨w.heap.size, 0, none⟩) hvp).trans v0; have u1 := (hb3'.cell (p := ⟨w.heap.size, 1, none⟩) hvp).trans v1; have u2 := (hb3'.cell (p := ⟨w.heap.size, 2, none⟩) hvp).trans v2; have u3 := (hb3'.cell (p := ⟨w.heap.size, 3, none⟩) hvp).trans v3; have u4 := (hb3'.cell (p := ⟨w.heap.size, 4, none⟩) hvp).trans v4; have hn3 : w.heap.size < w3.heap.size := (by omega); have hn3' : w.heap.size ≠ w3.heap.size := (by omega); have H3 := Lib.hid hb3'; clear hb3 hb3'))
                  | (go_at_call 24; go_loud (refine (HVI.out _).mono ?_; rintro e w4 ⟨he4, hb4⟩; rw [HVB.out] at he4; subst he4; have H4 := Lib.hid (((Below.refl _ w3).alloc (Nat.le_refl _) (.cells #[.int .i64 c1, .int .i64 c2] 27)).trans (hb4.mono (by simp))); have hT : w4.heap[w3.heap.size]? = some (.cells #[.int .i64 c1, .int .i64 c2] 27 (0, 0)) := (hb4.block w3.heap.size (by simp)).trans (heap_alloc_new w3 _); have HT := Lib.hid hT; have hz4 := hb4.size; simp at hz4; clear hb4 hT)))
                have hr4 := HRW.out.below (H3.out.trans (H4.out.mono H3.out.size))
                go_roundw
                case rel =>
                  refine ⟨k + 1, by omega, by go_num, hr4.congr (fun y' x' hy' hx' => ?_), Lib.hid (((H3.out.trans (H4.out.mono H3.out.size)).block w.heap.size hvp).trans HVP.out), HBP.out.trans ((H3.out.trans (H4.out.mono H3.out.size)).mono hzp)⟩
                  unfold fM
                  rw [HSU.out y' x']
                  have : (decide (c1 = (x' : Int)) && decide (c2 = (y' : Int))) = false := by
                    rw [Bool.eq_false_iff]
                    intro h
                    simp only [Bool.and_eq_true, decide_eq_true_eq] at h
                    exact HVN.out ⟨by omega, by omega, by omega, by omega⟩
                  rw [this, Bool.or_false]
                case measure => simp [intOf]; omega
            · obtain rfl : n = k := by omega
              have o4 : wr.cell? ⟨w.heap.size, 4, none⟩ = some (.int .i64 (ht : Int)) := cell_of_row wr w.heap.size 4 _ 25 (0, 0) HVP.out
              obtain ⟨p, hp⟩ : ∃ p : Nat → Int × Int, (fun i => cellOf cx cy sc wd ht (f i)) = p := ⟨_, rfl⟩
              rw [hp] at HRW
              have HPP := Lib.hid hp
              simp only [picF, hp]
              have hw1 : IntKind.i64.wrap ((ht : Int) - 1) = (ht : Int) - 1 := IntWalk.i64_in _ (by omega)
              obtain ⟨wo, rfl⟩ : ∃ wo : World, wo = wr := ⟨_, rfl⟩
              obtain ⟨i0, J0, J1, J2, J3⟩ := info_parts str_info
              clear hp
              go_wp2
              go_loopw [22, 23] (fun v x wq => ∃ j k : Nat, j + k = ht ∧ x = .int .i64 ((k : Int) - 1) ∧ wq.ownsRow wo.heap.size 9 1 v j ((List.range j).map fun i => .string (rowStr wd (fM 111 p n gq (ht - 1 - i)))) ∧ Below wo.heap.size wo wq) (fun _ x _ => (intOf x + 1).toNat)
              case atStart => exact ⟨0, ht, by omega, rfl, World.ownsRow_nil _ _ _ _, Below.refl _ _⟩
              case round =>
                obtain ⟨j, k, hjk, rfl, hown, hbq⟩ := hrel
                obtain ⟨V, cv, rfl⟩ := own_shape hown
                have HOW := Lib.hid hown
                have HBQ := Lib.hid hbq
                have hzq := hbq.size
                clear hown hbq
                cases k with
                | zero =>
                  obtain rfl : j = ht := by omega
                  go_wp2
                  go_ret2
                  exact ⟨V, cv, rfl, by have hpp := HPP.out; have hqq := HQE.out; have hgg := HG0.out; subst hpp; subst hqq; subst hgg; exact own_mono HOW.out (by have := HBP.out.size; omega), HBP.out.trans (HBQ.out.mono HBP.out.size)⟩
                | succ yy =>
                  have hxe : (((yy + 1 : Nat) : Int) - 1) = (yy : Int) := by omega
                  rw [hxe]
                  have hry := HRW.out.below HBQ.out
                  have g0 := hry.cell (y := yy) (by omega)
                  have hge : (0 : Int) ≤ (yy : Int) := by omega
                  have h60 : (yy : Int) < 60 := by omega
                  have hyl : yy < ht := by omega
                  have hcv := run_convert_bytes_arg (P := Try.prog) wr 58 5 Try.underlying58 Try.underlying5 (G yy) 0 wd wd ((List.range wd).map (fM 111 p n gq yy)) (by simp) (fun i hi => by rw [Nat.zero_add, ((hry.byt yy hyl).cell hi).1]; simp [List.getD, hi]) 9 Try.underlying9
                  have hstr : strOfNums ((List.range wd).map (fM 111 p n gq yy)) = rowStr wd (fM 111 p n gq (ht - 1 - j)) := by
                    rw [show ht - 1 - j = yy by omega]; rfl
                  rw [hstr] at hcv
                  have HSN : Hid ((List.range (j + 1)).map (fun i => Value.string (rowStr wd (fM 111 p n gq (ht - 1 - i)))) = ((List.range j).map fun i => Value.string (rowStr wd (fM 111 p n gq (ht - 1 - i)))) ++ [Value.string (rowStr wd (fM 111 p n gq (ht - 1 - j)))]) := Lib.hid (by rw [List.range_succ, List.map_append]; rfl)
                  generalize rowStr wd (fM 111 p n gq (ht - 1 - j)) = str at *
                  clear hry hstr
                  go_wp2_with (at_builtin; go_loud (refine wpList_append_oneN wr wr.heap.size rfl #[.string str] rfl (.tmp 122) (.tmp 127) 37 rfl wo.heap.size 9 i0 (.string ByteArray.empty) 1 16 Try.underlying37 J0 J1 J2 J3 rfl (by decide) (.slice V j cv) j _ rfl HOW.out rfl rfl (by simp [Value.oneCell']) (by omega) (by decide) (by omega) ?_); intro g3 cap3 w6 hv6 hg6 hat6 hlt6)
                  go_roundw
                  case rel => exact ⟨j + 1, yy, by omega, by go_num, by rw [HSN.out]; exact hv6, below_app HBQ.out hzq HOW.out (Nat.le_refl _) hg6⟩
                  case measure => simp [intOf]
end Go.Proofs.Ytlkdjnmehnibmaa
