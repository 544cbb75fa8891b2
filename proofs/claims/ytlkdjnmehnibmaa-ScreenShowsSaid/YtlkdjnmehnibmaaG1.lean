/- Package screen: polygons in memory; check of polygons and points. -/
import Derived.Test.YtlkdjnmehnibmaaA10
import Derived.Test.YtlkdjnmehnibmaaA6
namespace Go.Proofs.Ytlkdjnmehnibmaa
open Go.RowKit

/-- Polygons: m slices, the i-th with N i points F i. -/
structure Polys (w : World) (B : Nat) (L : Option Addr) (m : Nat) (N : Nat → Nat) (F : Nat → Nat → Int × Int) : Prop where
  ex : ∃ (P : Nat → Option Addr) (C : Nat → Nat), Sl w B 1 L m (fun i => [.slice (P i) (N i) (C i)]) ∧ ∀ i, i < m → Sl w B 2 (P i) (N i) (ptRow (F i))
  le : ∀ i, i < m → N i ≤ 16
  ok : ∀ i, i < m → ∀ k, k < N i → PtOk (F i k)
theorem Polys.below {w w' : World} {B : Nat} {L : Option Addr} {m : Nat} {N : Nat → Nat} {F : Nat → Nat → Int × Int} (h : Polys w B L m N F) (hb : Below B w w') : Polys w' B L m N F := by
  obtain ⟨P, C, h1, h2⟩ := h.ex
  exact ⟨⟨P, C, h1.below hb, fun i hi => (h2 i hi).below hb⟩, h.le, h.ok⟩
theorem Polys.more {w : World} {B B' : Nat} {L : Option Addr} {m : Nat} {N : Nat → Nat} {F : Nat → Nat → Int × Int} (h : Polys w B L m N F) (hb : B ≤ B') : Polys w B' L m N F := by
  obtain ⟨P, C, h1, h2⟩ := h.ex
  exact ⟨⟨P, C, h1.more hb, fun i hi => (h2 i hi).more hb⟩, h.le, h.ok⟩

set_option maxRecDepth 100000 in
set_option maxHeartbeats 4000000 in
theorem check_all (cx cy sc wd ht : Int) (L : Option Addr) (m cL : Nat) (N : Nat → Nat) (F : Nat → Nat → Int × Int) (A : Option Addr) (n c : Nat) (f : Nat → Int × Int) (w : World) (h1 : -1000000 ≤ cx) (h2 : cx ≤ 1000000) (h3 : -1000000 ≤ cy) (h4 : cy ≤ 1000000) (h5 : 1 ≤ sc) (h6 : sc ≤ 50000) (hb : sideE wd ht = 0)
    (hL : Polys w w.heap.size L m N F) (hm : m ≤ 12) (hA : Sl w w.heap.size 2 A n (ptRow f)) (hn : n ≤ 32) (hf : ∀ i, i < n → PtOk (f i)) :
    Calls Try.prog 25 #[.agg #[.int .i64 cx, .int .i64 cy, .int .i64 sc, .int .i64 wd, .int .i64 ht], .slice L m cL, .slice A n c] w fun e w' => e = .returned (.int .i64 0) ∧ Below w.heap.size w w' := by
  have HC := Lib.hid (fun W => Check_ok cx cy sc wd ht W h1 h2 h3 h4 h5 h6)
  rw [hb] at HC
  have HA := Lib.hid hA
  have HF := Lib.hid hf
  obtain ⟨P, C, hL1, hL2⟩ := hL.ex
  have HL1 := Lib.hid hL1
  have HL2 := Lib.hid hL2
  have HLe := Lib.hid hL.le
  have HLo := Lib.hid hL.ok
  have n0 : (0 : Int) ≤ (n : Int) := by omega
  have n32 : decide ((32 : Int) < (n : Int)) = false := decide_eq_false (by omega)
  have m0 : (0 : Int) ≤ (m : Int) := by omega
  have m12 : decide ((12 : Int) < (m : Int)) = false := decide_eq_false (by omega)
  clear hb hA hf h1 h2 h3 h4 h5 h6 hL hL1 hL2
  go_enter Try.func25, Try.ntmps25
  go_wp2_with (go_at_call 21; go_loud (refine (HC.out _).mono ?_; rintro e w1 ⟨rfl, hb1⟩; have hz1 := hb1.size; simp at hz1; have HB1 := Lib.hid (((Below.refl _ w).alloc (Nat.le_refl _) _).trans (hb1.mono (by simp))); clear hb1))
  go_loopw [31] (fun x wr => ∃ i : Nat, i ≤ m ∧ x = .int .i64 (i : Int) ∧ Hid (Below w.heap.size w wr)) (fun x _ => m - (intOf x).toNat)
  case atStart => exact ⟨0, by omega, rfl, HB1.out⟩
  case round =>
    obtain ⟨i, hi, rfl, HBw⟩ := hrel
    by_cases hlt : i < m
    · obtain ⟨bl, ol, rfl, hbl, hrl⟩ := HL1.out.one (by omega)
      have k0 : wr.cell? ⟨bl, ol + i, none⟩ = some (.slice (P i) (N i) (C i)) := (HBw.out.cell (p := ⟨bl, ol + i, none⟩) hbl).trans (hrl i hlt)
      have hPi := HL2.out i hlt
      have hNi := HLe.out i hlt
      have hOi := HLo.out i hlt
      have hi0 : (0 : Int) ≤ (i : Int) := by omega
      have him : (i : Int) < (m : Int) := by omega
      have hwi : IntKind.i64.wrap ((i : Int) + 1) = (i : Int) + 1 := IntWalk.i64_in _ (by omega)
      obtain ⟨pn, hpn⟩ : ∃ pn, N i = pn := ⟨_, rfl⟩
      obtain ⟨pa, hpa⟩ : ∃ pa, P i = pa := ⟨_, rfl⟩
      obtain ⟨pc, hpc⟩ : ∃ pc, C i = pc := ⟨_, rfl⟩
      rw [hpn] at k0 hPi hNi hOi
      rw [hpa] at k0 hPi
      rw [hpc] at k0
      have HPi := Lib.hid hPi
      have HOi := Lib.hid hOi
      have pn16 : decide ((16 : Int) < (pn : Int)) = false := decide_eq_false (by omega)
      have pn0 : (0 : Int) ≤ (pn : Int) := by omega
      clear hpn hpa hpc hPi hOi hrl
      obtain ⟨wo, rfl⟩ : ∃ wo : World, wo = wr := ⟨_, rfl⟩
      go_wp2_with fail
      go_loopw [40] (fun x wr => ∃ j : Nat, j ≤ pn ∧ x = .int .i64 (j : Int) ∧ Hid (Below w.heap.size w wr)) (fun x _ => pn - (intOf x).toNat)
      case atStart => exact ⟨0, by omega, rfl, HBw⟩
      case round =>
        obtain ⟨j, hj, rfl, HBr⟩ := hrel
        by_cases hlj : j < pn
        · obtain ⟨b, off, rfl, hbb, hr⟩ := pt_cells HPi.out (by omega)
          obtain ⟨r0, r1⟩ := hr j hlj
          have o0 := (HBr.out.cell (p := ⟨b, off + j * 2, none⟩) hbb).trans r0
          have o1 := (HBr.out.cell (p := ⟨b, off + j * 2 + 1, none⟩) hbb).trans r1
          obtain ⟨p1, p2, p3, p4⟩ := HOi.out j hlj
          generalize (F i j).1 = x at *
          generalize (F i j).2 = y at *
          have HP := Lib.hid (fun W => PCheck_ok x y W p1 p2 p3 p4)
          have hj0 : (0 : Int) ≤ (j : Int) := by omega
          have hjn : (j : Int) < (pn : Int) := by omega
          have hwj : IntKind.i64.wrap ((j : Int) + 1) = (j : Int) + 1 := IntWalk.i64_in _ (by omega)
          have hz := HBr.out.size
          have hbwr : b < wr.heap.size := by omega
          clear hr r0 r1 p1 p2 p3 p4 k0
          go_wp2_with (go_at_call 22; go_loud (refine (HP.out _).mono ?_; rintro e w2 ⟨rfl, hb2⟩))
          go_roundw
          case rel => exact ⟨j + 1, by omega, by go_num, HBr.out.trans (((Below.refl _ wr).alloc (Nat.le_refl _) _ |>.trans (hb2.mono (by simp))).mono hz)⟩
          case measure => simp [intOf]; omega
        · obtain rfl : j = pn := by omega
          go_wp2_with fail
          go_roundw
          case rel => exact ⟨i + 1, by omega, by go_num, HBr⟩
          case measure => simp [intOf]; omega
    · obtain rfl : i = m := by omega
      go_wp2_with fail
      go_loopw [53] (fun x wr => ∃ j : Nat, j ≤ n ∧ x = .int .i64 j ∧ Hid (Below w.heap.size w wr)) (fun x _ => n - (intOf x).toNat)
      case atStart => exact ⟨0, by omega, rfl, HBw⟩
      case round =>
        obtain ⟨j, hj, rfl, HBW⟩ := hrel
        by_cases hlt : j < n
        · obtain ⟨b, off, rfl, hbl, hr⟩ := pt_cells HA.out (by omega)
          obtain ⟨r0, r1⟩ := hr j hlt
          have o0 := (HBW.out.cell (p := ⟨b, off + j * 2, none⟩) hbl).trans r0
          have o1 := (HBW.out.cell (p := ⟨b, off + j * 2 + 1, none⟩) hbl).trans r1
          obtain ⟨p1, p2, p3, p4⟩ := HF.out j hlt
          generalize (f j).1 = x at *
          generalize (f j).2 = y at *
          have HP := Lib.hid (fun W => PCheck_ok x y W p1 p2 p3 p4)
          have hj0 : (0 : Int) ≤ (j : Int) := by omega
          have hjn : (j : Int) < (n : Int) := by omega
          have hz := HBW.out.size
          have hbwr : b < wr.heap.size := by omega
          clear hr r0 r1 p1 p2 p3 p4
          go_wp2_with (go_at_call 22; go_loud (refine (HP.out _).mono ?_; rintro e w2 ⟨rfl, hb2⟩))
          go_roundw
          case rel => exact ⟨j + 1, by omega, by go_num, HBW.out.trans (((Below.refl _ wr).alloc (Nat.le_refl _) _ |>.trans (hb2.mono (by simp))).mono hz)⟩
          case measure => simp [intOf]; omega
        · obtain rfl : n = j := by omega
          go_wp2
          go_ret
          exact ⟨rfl, HBW.out⟩
end Go.Proofs.Ytlkdjnmehnibmaa
