/- logOf. -/
import Derived.Test.YtbbklfjgojjlhaaGreatDoorL3
import Derived.Test.YtbbklfjgojjlhaaGreatDoorCut
import Derived.Lib.MinMax
namespace Go.Proofs.YtbbklfjgojjlhaaGreatDoor
open Go.RowKit
open Go.Lib hiding intOf

/-- What logOf leaves: a sound log of at most twelve entries. -/
def LogOfP (w : World) (y : Ending) (w' : World) : Prop := ∃ L, y = .returned (.pointer (some ⟨w.heap.size, 0, none⟩)) ∧ LogAt w.heap.size L w' ∧ LogOk L ∧ L.length ≤ 12 ∧ Below w.heap.size w w'

def AddAll (g : Nat) (l : List Ent) (w : World) (_ : Ending) (w' : World) : Prop := ∃ l', LogAt g l' w' ∧ LogOk l' ∧ l'.length ≤ l.length + 1 ∧ Below g w w'

theorem Add_sound {g : Nat} {l : List Ent} {w : World} (h : LogAt g l w) (ho : LogOk l) (t : Int) (k x : ByteArray) (hw : Wf (newE l t k x)) (hl : l.length ≤ 400) :
    Calls Tryz.prog 15 #[.pointer (some ⟨g, 0, none⟩), .int .i64 t, .string k, .string x] w fun y w' => (∃ v, y = .returned v) ∧ AddAll g l w y w' := by
  obtain ⟨A, c, h⟩ := h
  by_cases hc : addC l t k x = 0
  · refine (Add_ok h t k x hw hc hl).mono fun y w' hy => ?_
    obtain ⟨A', c', e, h1, h2, _, _⟩ := hy
    exact ⟨⟨_, e⟩, _, ⟨A', c', h1⟩, addC_ok hc ho, by simp, h2⟩
  · refine (Add_no h t k x hw hc hl).mono fun y w' hy => ?_
    exact ⟨⟨_, hy.1⟩, l, ⟨A, c, h.below hy.2⟩, ho, by omega, hy.2.mono (Nat.le_of_lt h.lt)⟩

theorem slice34 {A : Option Addr} {c : Nat} (n q : Nat) (hq : q ≤ n) (hn : n ≤ c) (hnil : A = none → n = 0 ∧ c = 0) (W : World) : (Instr.slice 22 (.slice A n c) none (some (.int .i64 (q : Int))) none).run Tryz.prog W = .ok (.slice A q c) W := by
  have h0 : (0 : Int) ≤ (q : Int) := by omega
  have h1 : (q : Int) ≤ (c : Int) := by omega
  cases A with
  | none =>
    obtain ⟨rfl, rfl⟩ := hnil rfl
    obtain rfl : q = 0 := by omega
    go_simp
  | some a => go_simp

theorem Sl.four {w : World} {B n : Nat} {A : Option Addr} {f : Nat → Ent} (h : Sl w B 4 A n (fun i => rowE (f i))) (i : Nat) (hi : i < n) : ∃ b off, A = some ⟨b, off, none⟩ ∧ b < B ∧
    w.cell? ⟨b, off + i * 4, none⟩ = some (.int .i64 (f i).num) ∧ w.cell? ⟨b, off + i * 4 + 1, none⟩ = some (.int .i64 (f i).time) ∧ w.cell? ⟨b, off + i * 4 + 2, none⟩ = some (.string (f i).kind) ∧ w.cell? ⟨b, off + i * 4 + 3, none⟩ = some (.string (f i).text) := by
  obtain ⟨b, off, e, hb, hr⟩ := h (by omega)
  have h0 := hr i hi 0 _ rfl
  rw [Nat.add_zero] at h0
  exact ⟨b, off, e, hb, h0, hr i hi 1 _ rfl, hr i hi 2 _ rfl, hr i hi 3 _ rfl⟩

set_option maxRecDepth 100000 in
set_option maxHeartbeats 4000000 in
theorem logOf_any (A : Option Addr) (n c N : Nat) (f : Nat → Ent) (w : World) (hA : Sl w w.heap.size 4 A n (fun i => rowE (f i))) (hf : ∀ i, i < n → Wf (f i)) (hc : n ≤ c) (hcm : c ≤ maxLen) (hnil : A = none → n = 0 ∧ c = 0) (hN : N = min n 12) :
    Calls Tryz.prog 4 #[.slice A n c] w (LogOfP w) := by
  unfold maxLen at hcm
  have HA := Lib.hid hA
  have HF := Lib.hid hf
  have hNn : N ≤ n := by omega
  have hN12 : N ≤ 12 := by omega
  have hsl := fun W => slice34 (A := A) (c := c) n N hNn hc hnil W
  have hmin : min (n : Int) 12 = (N : Int) := by omega
  clear hA hf hN hnil
  go_enter Tryz.func4, Tryz.ntmps4
  go_wp2_with (go_at_call 14; refine (New_any _).mono ?_; rintro e w1 ⟨rfl, hL1, hb1⟩)
  have HL1 := Lib.hid hL1
  have HB1 := Lib.hid hb1
  clear hL1 hb1
  go_loopw [4, 6, 16] (fun t4 _ i wr => ∃ (j : Nat) (t : Int) (L : List Ent), j ≤ N ∧ i = .int .i64 (j : Int) ∧ t4 = .int .i64 t ∧ 0 ≤ t ∧ t ≤ 50 * j ∧ LogAt w.heap.size L wr ∧ LogOk L ∧ L.length ≤ j ∧ Below w.heap.size w wr) (fun _ _ i _ => N - (intOf i).toNat)
  case atStart => exact ⟨0, 0, [], by omega, rfl, rfl, by omega, by omega, HL1.out, LogOk.nil, by simp, HB1.out⟩
  case round =>
    obtain ⟨j, t, L, hj, rfl, rfl, ht0, ht1, hLa, hLo, hLl, hbr⟩ := hrel
    have HLa := Lib.hid hLa
    have HLo := Lib.hid hLo
    clear hLa hLo
    by_cases hlt : j < N
    · obtain ⟨b, off, rfl, hb, q0, q1, q2, q3⟩ := HA.out.four j (by omega)
      have hwf := HF.out j (by omega)
      obtain ⟨x, hx⟩ : ∃ x, f j = x := ⟨_, rfl⟩
      rw [hx] at q0 q1 q2 q3 hwf
      obtain ⟨xn, xt, xk, xx⟩ := x
      simp only at q0 q1 q2 q3
      have o0 := (hbr.cell (p := ⟨b, off + j * 4, none⟩) hb).trans q0
      have o1 := (hbr.cell (p := ⟨b, off + j * 4 + 1, none⟩) hb).trans q1
      have o2 := (hbr.cell (p := ⟨b, off + j * 4 + 2, none⟩) hb).trans q2
      have o3 := (hbr.cell (p := ⟨b, off + j * 4 + 3, none⟩) hb).trans q3
      have hcb := cutI_bd (n := xt) (lo := 0) (hi := 50) (by omega)
      obtain ⟨ct, hct⟩ : ∃ ct, cutI xt 0 50 = ct := ⟨_, rfl⟩
      rw [hct] at hcb
      have HCt := Lib.hid hct
      obtain ⟨hc1, hc2⟩ := hcb
      have hj0 : (0 : Int) ≤ (j : Int) := by omega
      have hjN : (j : Int) < (N : Int) := by omega
      have hwn : Wf (newE L (t + ct) xk xx) := ⟨⟨by show (-9223372036854775808 : Int) ≤ (L.length : Int) + 1; omega, by show (L.length : Int) + 1 ≤ 9223372036854775807; omega⟩, ⟨by show (-9223372036854775808 : Int) ≤ t + ct; omega, by show t + ct ≤ 9223372036854775807; omega⟩, hwf.2.2.1, hwf.2.2.2⟩
      have HAdd := Lib.hid (fun (W : World) (hW : Below wr.heap.size wr W) => Add_sound (HLa.out.below hW) HLo.out (t + ct) xk xx hwn (by omega))
      have hbn : ∀ v, Below wr.heap.size wr (wr.alloc (.cells v 38)) := fun v => (Below.refl _ _).alloc (Nat.le_refl _) _
      have HBn := Lib.hid hbn
      clear hx q0 q1 q2 q3 hct hwn hwf hbn
      go_wp2_with (first
        | (go_at_call 8; refine (Cut_any _ _ _ _ (by omega) (by omega) (by omega)).mono ?_; rintro e w2 ⟨rfl, rfl⟩; rw [HCt.out])
        | (go_at_call 15; refine (HAdd.out _ (HBn.out _)).mono ?_; rintro e w3 ⟨⟨v3, rfl⟩, L3, hL3, hO3, hl3, hb3⟩))
      go_roundw
      case rel => exact ⟨j + 1, t + ct, L3, by omega, by go_num, rfl, by omega, by omega, hL3, hO3, by omega, (hbr.trans ((HBn.out _).mono hbr.size)).trans hb3⟩
      case measure => simp [intOf]; omega
    · obtain rfl : N = j := by omega
      go_wp2
      go_ret
      exact ⟨L, rfl, HLa.out, HLo.out, by omega, hbr⟩
end Go.Proofs.YtbbklfjgojjlhaaGreatDoor
