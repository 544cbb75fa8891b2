/- Package mailbox: Get. -/
import Derived.Test.YtblcgmihdgnhbaaA2
namespace Go.Proofs.Ytblcgmihdgnhbaa
open Go.RowKit

theorem own_head {w : World} {base : Nat} {v : Value} {x : Int} {rest : List Int} (h : w.ownsRow base 3 1 v (rest.length + 1) (intsV (x :: rest))) :
    ∃ b c, v = .slice (some ⟨b, 0, none⟩) (rest.length + 1) c ∧ w.cell? ⟨b, 0, none⟩ = some (.int .i64 x) ∧ base ≤ b ∧ b < w.heap.size := by
  rcases h.2 with ⟨_, h0⟩ | ⟨b, cap, cur, rfl, hb, hg, _, _, hs, ht⟩
  · omega
  · refine ⟨b, cap, rfl, ?_, hb, (Array.getElem?_eq_some_iff.1 hg).1⟩
    rw [cell_of_row _ _ _ _ _ _ hg]
    have := congrArg (fun l => l[0]?) ht
    simpa [intsV, List.getElem?_take] using this

set_option maxRecDepth 100000 in
set_option maxHeartbeats 2000000 in
theorem Get_ok {g : Nat} {sz cnt : Int} {vs : Nat → Value} {ls : Nat → List Int} {C : Array Value} {w : World} (h : BoxAt g sz cnt vs ls C w) (p : Nat) (x : Int) (rest : List Int) (hp : p < 8) (hl : ls p = x :: rest) (he : ∀ q, p < q → q < 8 → ls q = [])
    (hc0 : 1 ≤ cnt) (hc1 : cnt ≤ 1000) (hr : rest.length ≤ 1000) :
    Calls Try.prog 11 #[.pointer (some ⟨g, 0, none⟩)] w fun e w' => ∃ vs' C', e = .returned (.tuple #[.int .i64 x, .int .i64 (p : Int), .int .i64 0]) ∧ BoxAt g sz (cnt - 1) vs' (upd ls p rest) C' w' ∧ Below g w w' := by
  have hown := h.own p hp
  rw [hl] at hown
  obtain ⟨b, c, hv, hx, hb, hbs⟩ := own_head hown
  have cp := (h.cell (2 + p)).trans (h.cv p hp)
  rw [hv] at cp hown
  have hg := h.lt
  have HB := Lib.hid h
  have HV := Lib.hid hv
  have HO := Lib.hid hown
  have HE := Lib.hid he
  have HL := Lib.hid hl
  have hwc : IntKind.i64.wrap (cnt - 1) = cnt - 1 := IntWalk.i64_in _ (by omega)
  clear h hv hown he hl
  go_enter Try.func11, Try.ntmps11
  go_wp2
  go_loopw [6] (fun k wr => ∃ j : Nat, p ≤ j ∧ j < 8 ∧ k = .int .i64 j ∧ w = wr) (fun k _ => (intOf k).toNat)
  case atStart => exact ⟨7, by omega, by omega, rfl, rfl⟩
  case round =>
    obtain ⟨j, hpj, hj, rfl, rfl⟩ := hrel
    obtain ⟨A, cj, hvj⟩ := own_shape (HB.out.own j hj)
    have ccj := (HB.out.cell (2 + j)).trans ((HB.out.cv j hj).trans (congrArg some hvj))
    have fj := HB.out.frozen (2 + j)
    have hj0 : (0 : Int) ≤ (j : Int) := by omega
    have hj8 : (j : Int) < 8 := by omega
    have hjw : IntKind.i64.wrap ((j : Int) - 1) = (j : Int) - 1 := IntWalk.i64_in _ (by omega)
    by_cases hjp : j = p
    · obtain rfl : p = j := hjp.symm
      have hpos : decide ((0 : Int) < ((rest.length + 1 : Nat) : Int)) = true := decide_eq_true (by omega)
      clear ccj
      have hone : ∀ u ∈ intsV (x :: rest), u.oneCell' = true := by
        intro u hu
        obtain ⟨y, _, rfl⟩ := List.mem_map.1 hu
        rfl
      have HO1 := Lib.hid hone
      clear hone
      go_wp2
      go_region_with (go_at_call 15; refine (DeleteInts_at (g + 1) b (rest.length + 1) c 0 1 0 1 rfl rfl (intsV (x :: rest)) _ (by exact HO.out) HO1.out rest.length rest.length (by omega) (by omega) (by omega)).mono ?_; rintro e w3 ⟨rfl, hown3, hg3⟩; have hb3 : w3.heap[g]? = some (.cells C 47 (0, 0)) := (hg3.block g (by exact hg) (fun e => by cases e; omega)).trans HB.out.blk; have d1 := (cell_of_row w3 g 1 C 47 (0, 0) hb3).trans HB.out.c1; have dp := (cell_of_row w3 g (2 + p) C 47 (0, 0) hb3).trans (HB.out.cv p hp); have e1 := frozen_of_row w3 g 1 C 47 hb3; have ep := frozen_of_row w3 g (2 + p) C 47 hb3; have n1 : (1 : Nat) ≠ 2 + p := by omega)
      all_goals go_wp2
      all_goals go_ret3
      all_goals (have T := HB.out.turn p hp (l3 := rest) (w3 := w3) (by simpa [intsV] using hown3) ?_ (fun q hq hqp => ?_) (cnt - 1) 0)
      all_goals first
        | exact ⟨_, _, rfl, T⟩
        | (rw [HV.out]; exact ⟨hg3.os, hg3.tape, hg3.output, hg3.size, hg3.block⟩)
        | (have hA := HB.out.apart p q hp hq (fun e => hqp e.symm); rw [HV.out] at hA; exact hA)
    · have hlen : (ls j).length = 0 := by rw [HE.out j (by omega) hj]; rfl
      rw [hlen] at ccj
      go_wp2
      go_roundw
      case rel => exact ⟨j - 1, by omega, by omega, by go_num⟩
      case measure => simp [intOf]; omega
end Go.Proofs.Ytblcgmihdgnhbaa
