/- Package clock: Consistent, at a consistent cut. -/
import Derived.Test.YtchpgknaaofapaaA7
namespace Go.Proofs.Ytchpgknaaofapaa
open Go.RowKit

/-- The cut holds whatever leads to its events. -/
def ConsAt (l : List Ev) (f : Nat → Int) : Prop := ∀ i, i < l.length → VvE l i (sa l i) ≤ f (sa l i) → ∀ s, s < 8 → VvE l i s ≤ max 0 (f s)

set_option maxRecDepth 100000 in
set_option maxHeartbeats 4000000 in
theorem Cons_ok (A B : Option Addr) (c cb : Nat) (l : List Ev) (n : Nat) (f : Nat → Int) (hln : l.length = n) (w : World) (hA : EvsAt w w.heap.size A l) (hn : n ≤ c) (hc : c ≤ maxLen) (he : checkE l = 0)
    (hB : Sl w w.heap.size 1 B 8 (fun i => [.int .i64 (f i)])) (hf : ConsAt l f) :
    Calls Try.prog 16 #[.slice A n c, .slice B 8 cb] w fun e w' => e = .returned (.tuple #[.bool true, .int .i64 0]) ∧ Below w.heap.size w w' := by
  have hcon := Vectors_ok A c l n hln w hA hn hc he
  have h200 : n ≤ 200 := by have := (code_inv he).1; omega
  obtain ⟨cb0, coff, rfl, hcb, hcr⟩ := hB.one (by decide)
  have HC := Lib.hid he
  have HL := Lib.hid hln
  have HA := Lib.hid hA
  have HF := Lib.hid hf
  have HCR := Lib.hid hcr
  clear he hln hA hB hf hcr
  go_enter Try.func16, Try.ntmps16
  go_wp2_with (go_at_call 8; refine hcon.mono ?_; rintro e w1 ⟨O, co, hs, rfl, hV, hb1⟩; have HV := Lib.hid hV; clear hV)
  clear hcon
  go_loopw [25] (fun k wr => ∃ j : Nat, j ≤ n ∧ k = .int .i64 j ∧ VecRows wr w.heap.size (.slice O n co) n hs (VvE l) ∧ Below w.heap.size w wr) (fun k _ => n - (intOf k).toNat)
  case atStart => exact ⟨0, by omega, rfl, HV.out, hb1⟩
  case round =>
    obtain ⟨j, hj, rfl, hV, hbel⟩ := hrel
    by_cases hlt : j < n
    · obtain ⟨e1, ha8, _, _, _⟩ := ev_ok ((code_inv HC.out).2 j (by rw [HL.out]; exact hlt))
      have hA' := HA.out
      have hl := HL.out
      obtain ⟨b, off, rfl, hb, hr⟩ := hA' (by omega)
      have hrow := hr j (by omega)
      have o0 : wr.cell? ⟨b, off + j * 3, none⟩ = some (.int .i64 l[j]!.1) := (hbel.cell (p := ⟨b, off + j * 3, none⟩) hb).trans (hrow 0 _ rfl)
      have o1 : wr.cell? ⟨b, off + j * 3 + 1, none⟩ = some (.int .i64 l[j]!.2.1) := (hbel.cell (p := ⟨b, off + j * 3 + 1, none⟩) hb).trans (hrow 1 _ rfl)
      have o2 : wr.cell? ⟨b, off + j * 3 + 2, none⟩ = some (.int .i64 l[j]!.2.2) := (hbel.cell (p := ⟨b, off + j * 3 + 2, none⟩) hb).trans (hrow 2 _ rfl)
      rw [e1] at o0
      have hbw : b < wr.heap.size := Nat.lt_of_lt_of_le hb hbel.size
      have hj0 : (0 : Int) ≤ (j : Int) := by omega
      have hjc : (j : Int) ≤ (c : Int) := by omega
      obtain ⟨go, rfl, hgo, hrows⟩ := hV.get (by omega)
      obtain ⟨g, cg, hg, r1, r2⟩ := hrows j hlt
      have HV2 := Lib.hid hV
      have HR := Lib.hid r2
      have hcA := (hbel.cell (p := ⟨cb0, coff + sa l j, none⟩) hcb).trans (HCR.out (sa l j) ha8)
      have hvA := HR.out (sa l j) ha8
      have hFj := HF.out j (by omega)
      have HFJ := Lib.hid hFj
      have hcbw : cb0 < wr.heap.size := Nat.lt_of_lt_of_le hcb hbel.size
      have ha0 : (0 : Int) ≤ ((sa l j : Nat) : Int) := by omega
      have ha8' : ((sa l j : Nat) : Int) < 8 := by omega
      have hcb1 : cb0 < wr.heap.size + 1 := by omega
      have hgo1 : go < wr.heap.size + 1 := by omega
      have hg1 : g < wr.heap.size + 1 := by omega
      clear hV r2 hrows hr hrow hA' hl hFj e1
      generalize hvx : VvE l j (sa l j) = vx at *
      generalize hfx : f (sa l j) = fx at *
      generalize sa l j = a at *
      generalize l[j]!.2.1 = k at *
      generalize l[j]!.2.2 = m at *
      have HVX := Lib.hid hvx
      have HFX := Lib.hid hfx
      clear hvx hfx
      by_cases hgt : fx < vx
      · go_wp2
        go_quiet (fail)
        go_wp2
        go_roundw
        case rel => exact ⟨j + 1, by omega, by go_num, (HV2.out.alloc _).drewN _, below_drewN (hbel.alloc hbel.size _) _⟩
        case measure => simp [intOf]; omega
      · have hall := HFJ.out (by omega)
        have HALL := Lib.hid hall
        clear hall
        go_wp2
        go_quiet (fail)
        go_wp2
        go_loop [49] (fun x => ∃ s : Nat, s ≤ 8 ∧ x = .int .i64 s) (fun x => 8 - (intOf x).toNat)
        case atStart => exact ⟨0, by omega, rfl⟩
        case round =>
          obtain ⟨s, hs8, rfl⟩ := hrel
          by_cases hlt8 : s < 8
          · have hn := HR.out s hlt8
            have hcS := (hbel.cell (p := ⟨cb0, coff + s, none⟩) hcb).trans (HCR.out s hlt8)
            have hle := HALL.out s hlt8
            have hs0 : (0 : Int) ≤ (s : Int) := by omega
            have hs8' : (s : Int) < 8 := by omega
            generalize VvE l j s = y at *
            generalize f s = z at *
            have hle' : ¬ (max 0 z < y) := by omega
            go_wp2
            go_round
            case rel => exact ⟨s + 1, by omega, by go_num⟩
            case measure => simp [intOf]; omega
          · obtain rfl : s = 8 := by omega
            go_wp2
            go_roundw
            case rel => exact ⟨j + 1, by omega, by go_num, (HV2.out.alloc _).drewN _, below_drewN (hbel.alloc hbel.size _) _⟩
            case measure => simp [intOf]; omega
    · obtain rfl : n = j := by omega
      clear hV
      go_wp2
      go_ret2
      exact ⟨rfl, hbel⟩
end Go.Proofs.Ytchpgknaaofapaa
