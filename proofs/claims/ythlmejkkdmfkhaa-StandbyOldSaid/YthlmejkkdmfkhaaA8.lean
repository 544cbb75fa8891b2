/- Package standby: Deliver as a whole; R.Itoa at small numbers; slices.Equal of equal texts; the fixed example. -/
import Derived.Test.YthlmejkkdmfkhaaA7
namespace Go.Proofs.Ythlmejkkdmfkhaa
open Go.RowKit

theorem Deliver_any {g : Nat} {p : Pr} {vp vs vw : Value} {w : World} {T : Int} (h : PairAt g p vp vs vw w) (k : Nat) (hw : Wf T p) :
    Calls Try.prog 22 #[.pointer (some ⟨g, 0, none⟩), .int .i64 (k : Int)] w (Pp g (Own g vp vs vw) (p.deliver k) (.returned (.int .i64 (p.deliverE k))) w) := by
  have hsp := hw.sp
  have hp64 := hw.p64
  have hw64 := hw.w64
  unfold Pr.deliver Pr.deliverE
  by_cases hk : k < p.ws.length
  · rw [if_pos hk, if_pos hk]
    unfold Pr.get
    by_cases h1 : p.ws[k]!.term < p.term
    · rw [if_pos (show p.ws[k]!.term < (p.take k).term from h1)]
      exact Deliver_old h k hw64 hk h1
    · rw [if_neg (show ¬ p.ws[k]!.term < (p.take k).term from h1)]
      cases h2 : p.ws[k]!.ack with
      | true =>
        rw [if_pos rfl]
        exact Deliver_ack h k hw64 hk h1 h2
      | false =>
        rw [if_neg (by simp)]
        unfold Pr.note
        by_cases h3 : p.ws[k]!.num = (p.ss.length : Int) + 1
        · rw [if_pos (show p.ws[k]!.num = ((p.take k).ss.length : Int) + 1 from h3)]
          exact Deliver_new h k hw64 hk (by omega) h1 h2 h3 _ rfl
        · rw [if_neg (show ¬ p.ws[k]!.num = ((p.take k).ss.length : Int) + 1 from h3)]
          exact Deliver_dup h k hw64 hk (by omega) h1 h2 h3 _ rfl
  · rw [if_neg hk, if_neg hk]
    exact Deliver_none h k hw64 (by omega)
theorem Wf.deliver {T : Int} {p : Pr} (hw : Wf T p) (k : Nat) : Wf T (p.deliver k) := by
  unfold Pr.deliver
  split
  · rename_i hk
    exact (hw.take k).get (hw.ms _ (by rw [getElem!_pos p.ws k hk]; exact List.getElem_mem hk))
  · exact hw
theorem deliver_ext (p : Pr) (k : Nat) : Ext p (p.deliver k) := by
  unfold Pr.deliver
  split
  · exact (take_ext p k).trans (get_ext _ _)
  · exact Ext.refl p
theorem Wf.drop {T : Int} {p : Pr} (hw : Wf T p) (k : Nat) : Wf T (p.drop k) := by
  unfold Pr.drop
  split
  · exact hw.take k
  · exact hw
theorem drop_ext (p : Pr) (k : Nat) : Ext p (p.drop k) := by
  unfold Pr.drop
  split
  · exact take_ext p k
  · exact Ext.refl p
theorem Wf.again {T : Int} {p : Pr} (hw : Wf T p) (k : Nat) : Wf T (p.again k) := by
  unfold Pr.again
  split
  · rename_i hk
    exact hw.repeat_ (by rw [getElem!_pos p.ws k hk]; exact List.getElem_mem hk)
  · exact hw
theorem again_ext (p : Pr) (k : Nat) : Ext p (p.again k) := by
  unfold Pr.again
  split
  · exact push_ext _ _
  · exact Ext.refl p
theorem Wf.overs {T : Int} {p : Pr} (hw : Wf T p) : Wf (T + 1) p.overs := by
  unfold Pr.overs
  split
  · exact hw.more (by omega)
  · exact hw.over (by omega)
theorem overs_ext {T : Int} {p : Pr} (hw : Wf T p) : Ext p p.overs := by
  unfold Pr.overs
  split
  · exact Ext.refl p
  · exact over_ext hw (by omega)

def SomeStr (w : World) (e : Ending) (w' : World) : Prop := ∃ s : ByteArray, e = .returned (.string s) ∧ s.size ≤ 80 ∧ w = w'

set_option maxRecDepth 100000 in
set_option maxHeartbeats 1000000 in
theorem Itoa_zero (w : World) : Calls Try.prog 28 #[.int .i64 0] w (SomeStr w) := by
  go_enter Try.func28, Try.ntmps28
  go_wp2
  go_loop [0, 3] (fun a b => a = .int .i64 (0 : Nat) ∧ (b = .string { data := #[] } ∨ b = .string { data := #[48] })) (fun _ b => match b with | .string s => 1 - s.size | _ => 0)
  case atStart => exact ⟨rfl, .inl rfl⟩
  case round =>
    obtain ⟨rfl, rfl | rfl⟩ := hrel
    · go_wp2
      exact ⟨⟨rfl, .inr rfl⟩, by decide⟩
    · go_wp2
      go_ret
      exact ⟨_, rfl, by decide, rfl⟩

theorem dig_size (r : Nat) (h : r < 10) : (ByteArray.extract { data := #[48, 49, 50, 51, 52, 53, 54, 55, 56, 57] } r (r + 1)).size = 1 := by
  have hh : r = 0 ∨ r = 1 ∨ r = 2 ∨ r = 3 ∨ r = 4 ∨ r = 5 ∨ r = 6 ∨ r = 7 ∨ r = 8 ∨ r = 9 := by omega
  rcases hh with rfl | rfl | rfl | rfl | rfl | rfl | rfl | rfl | rfl | rfl <;> rfl

set_option maxRecDepth 100000 in
set_option maxHeartbeats 2000000 in
theorem Itoa_pos (n : Nat) (w : World) (h1 : 1 ≤ n) (h2 : n ≤ 80) : Calls Try.prog 28 #[.int .i64 (n : Int)] w (SomeStr w) := by
  go_enter Try.func28, Try.ntmps28
  go_wp2
  go_loop [0, 3] (fun a b => ∃ (k : Nat) (s : ByteArray), a = .int .i64 k ∧ b = .string s ∧ s.size + k ≤ 80 ∧ (s.size = 0 → 1 ≤ k)) (fun a _ => (intOf a).toNat)
  case atStart => exact ⟨n, { data := #[] }, rfl, rfl, by show 0 + n ≤ 80; omega, fun _ => h1⟩
  case round =>
    obtain ⟨k, s, rfl, rfl, hs, hk⟩ := hrel
    by_cases hk1 : 1 ≤ k
    · have b1 : decide ((0 : Int) < (k : Int)) = true := by simp; omega
      have hd := dig_size (k % 10) (by omega)
      have HD := Lib.hid hd
      clear hd
      go_wp2
      refine ⟨⟨k / 10, _, by go_num, rfl, ?_, fun h => ?_⟩, by simp [intOf]; omega⟩
      · rw [ByteArray.size_append, HD.out]; omega
      · rw [ByteArray.size_append, HD.out] at h; omega
    · obtain rfl : k = 0 := by omega
      have hne : ¬ s.size = 0 := fun h => by have := hk h; omega
      have e1 : s.toList.isEmpty = false := by
        rw [ByteArray.toList_eq]
        cases hl : s.data.toList with
        | nil => exact absurd (by show s.data.size = 0; rw [← Array.length_toList, hl]; rfl) hne
        | cons _ _ => rfl
      have e2 : (!s.toList.isEmpty) = true := by rw [e1]; rfl
      clear hk
      go_wp2
      go_ret
      exact ⟨s, rfl, by omega, rfl⟩
theorem Itoa_any (n : Nat) (w : World) (h2 : n ≤ 80) : Calls Try.prog 28 #[.int .i64 (n : Int)] w (SomeStr w) := by
  by_cases h : 1 ≤ n
  · exact Itoa_pos n w h h2
  · obtain rfl : n = 0 := by omega
    exact Itoa_zero w

theorem strs_row {w : World} {N : Nat} {A : Option Addr} {l : List ByteArray} (h : Sl w N 1 A l.length (rowS l)) (hn : 0 < l.length) : ∃ b off, A = some ⟨b, off, none⟩ ∧ b < N ∧ ∀ i, i < l.length → w.cell? ⟨b, off + i, none⟩ = some (.string l[i]!) :=
  Sl.one (f := fun i => .string l[i]!) h hn
set_option maxRecDepth 100000 in
set_option maxHeartbeats 2000000 in
theorem EqualS (A B : Option Addr) (l : List ByteArray) (n c d N : Nat) (w : World) (hA : Sl w N 1 A l.length (rowS l)) (hB : Sl w N 1 B l.length (rowS l)) (hl : l.length = n) (hn : n ≤ 1000) :
    Calls Try.prog 13 #[.slice A n c, .slice B n d] w fun e w' => e = .returned (.bool true) ∧ ∃ q, w' = w.drewN q := by
  have HA := Lib.hid hA
  have HB := Lib.hid hB
  have HL := Lib.hid hl
  clear hA hB hl
  go_enter Try.func13, Try.ntmps13
  go_wp2
  go_loopw [13] (fun k wr => ∃ j : Nat, j ≤ n ∧ k = .int .i64 j ∧ ∃ q, wr = w.drewN q) (fun k _ => n - (intOf k).toNat)
  case atStart => exact ⟨0, by omega, rfl, 0, rfl⟩
  case round =>
    obtain ⟨j, hj, rfl, q, rfl⟩ := hrel
    by_cases hlt : j < n
    · obtain ⟨b, off, rfl, hb, hc⟩ := strs_row HA.out (by have := HL.out; omega)
      obtain ⟨b2, off2, rfl, hb2, hc2⟩ := strs_row HB.out (by have := HL.out; omega)
      have c1 := hc j (by have := HL.out; omega)
      have c2 := hc2 j (by have := HL.out; omega)
      clear hc hc2
      generalize l[j]! = x at *
      have l1 : (j : Int) < (n : Int) := by omega
      have l0 : (0 : Int) ≤ (j : Int) := by omega
      go_wp2
      go_quiet (fail)
      go_wp2
      go_roundw
      case rel => exact ⟨j + 1, by omega, by go_num, _, rfl⟩
      case measure => simp [intOf]; omega
    · go_wp2
      go_ret
      exact ⟨rfl, q, rfl⟩
end Go.Proofs.Ythlmejkkdmfkhaa
