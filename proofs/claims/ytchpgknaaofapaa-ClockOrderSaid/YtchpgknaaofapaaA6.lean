/- Package clock: Vectors, Before; clockFact. -/
import Derived.Test.YtchpgknaaofapaaA5
import Derived.Test.YtchpgknaaofapaaEq
namespace Go.Proofs.Ytchpgknaaofapaa
open Go.RowKit

theorem VecRows.get {w : World} {base n c : Nat} {A : Option Addr} {hs : List Value} {V : Nat → Nat → Int} (h : VecRows w base (.slice A n c) n hs V) (hn : 0 < n) :
    ∃ go, A = some ⟨go, 0, none⟩ ∧ go < w.heap.size ∧ ∀ i, i < n → ∃ g cap, g < w.heap.size ∧ w.cell? ⟨go, i, none⟩ = some (.slice (some ⟨g, 0, none⟩) 8 cap) ∧ ∀ s, s < 8 → w.cell? ⟨g, s, none⟩ = some (.int .i64 (V i s)) := by
  obtain ⟨go, cap, hv, _, hlto⟩ := h.own.form hn
  have hO : A = some ⟨go, 0, none⟩ := by injection hv
  refine ⟨go, hO, hlto, fun i hi => ?_⟩
  obtain ⟨g, cr, h1, _, h3⟩ := h.row i hi
  refine ⟨g, cr, (h3.lt g rfl).2, ?_, fun s hs8 => ?_⟩
  · have := h.own.cells (g := go) (by rw [hO]; rfl) i _ h1
    rw [Addr.add_mid, Nat.zero_add] at this
    exact this
  · have := h3.cells (g := g) rfl s _ (intsV_get hs8)
    rw [Addr.add_mid, Nat.zero_add] at this
    exact this
theorem VecRows.shape {w : World} {base n : Nat} {v : Value} {hs : List Value} {V : Nat → Nat → Int} (h : VecRows w base v n hs V) : ∃ A c, v = .slice A n c := own_shape h.own

set_option maxHeartbeats 1000000 in
theorem Vectors_no (A : Option Addr) (c : Nat) (l : List Ev) (n : Nat) (hln : l.length = n) (w : World) (hA : EvsAt w w.heap.size A l) (hn : n ≤ c) (hc : c ≤ maxLen) (he : checkE l ≠ 0) :
    Calls Try.prog 8 #[.slice A n c] w fun e w' => e = .returned (.tuple #[.slice none 0 0, .int .i64 (checkE l)]) ∧ Below w.heap.size w w' := by
  have hne : (checkE l != 0) = true := by simp [he]
  have hcon := Check_any A c l n hln w hA hn hc
  generalize checkE l = r at *
  clear he hA hln
  go_enter Try.func8, Try.ntmps8
  go_wp2_with (go_at_call 20; refine hcon.mono ?_; rintro e w1 ⟨rfl, hb1⟩)
  go_ret2
  exact ⟨rfl, hb1⟩

set_option maxHeartbeats 1000000 in
theorem Vectors_ok (A : Option Addr) (c : Nat) (l : List Ev) (n : Nat) (hln : l.length = n) (w : World) (hA : EvsAt w w.heap.size A l) (hn : n ≤ c) (hc : c ≤ maxLen) (he : checkE l = 0) :
    Calls Try.prog 8 #[.slice A n c] w fun e w' => ∃ O co hs, e = .returned (.tuple #[.slice O n co, .int .i64 0]) ∧ VecRows w' w.heap.size (.slice O n co) n hs (VvE l) ∧ Below w.heap.size w w' := by
  have hcon := Check_any A c l n hln w hA hn hc
  rw [he] at hcon
  have hcon2 := fun (W : World) (hb : Below w.heap.size w W) => vectors_ok A c l n hln W ((hA.below hb).more hb.size) hn hc he
  have H2 := Lib.hid hcon2
  clear hA hln he hcon2
  go_enter Try.func8, Try.ntmps8
  go_wp2_with (first
    | (go_at_call 20; refine hcon.mono ?_; rintro e w1 ⟨rfl, hb1⟩)
    | (go_at_call 21; refine (H2.out _ hb1).mono ?_; rintro e w2 ⟨v, hs, rfl, hV, hb2⟩))
  obtain ⟨O, co, rfl⟩ := hV.shape
  have HV := Lib.hid hV
  have hz := hb1.size
  clear hV
  go_ret2
  exact ⟨_, _, hs, rfl, ⟨own_mono HV.out.own hz, fun i hi => by
    obtain ⟨g, cap, h1, h2, h3⟩ := HV.out.row i hi
    exact ⟨g, cap, h1, h2, own_mono h3 hz⟩⟩, hb1.trans (hb2.mono hz)⟩

def befB (l : List Ev) (i k : Nat) : Bool := decide (i ≠ k) && decide (VvE l i (sa l i) ≤ VvE l k (sa l i))

set_option maxRecDepth 100000 in
set_option maxHeartbeats 2000000 in
theorem Before_ok (A : Option Addr) (c : Nat) (l : List Ev) (n i k : Nat) (hln : l.length = n) (w : World) (hA : EvsAt w w.heap.size A l) (hn : n ≤ c) (hc : c ≤ maxLen) (he : checkE l = 0) (hi : i < n) (hk : k < n) :
    Calls Try.prog 10 #[.slice A n c, .int .i64 (i : Int), .int .i64 (k : Int)] w fun e w' => e = .returned (.tuple #[.bool (befB l i k), .int .i64 0]) ∧ Below w.heap.size w w' := by
  have hcon := Vectors_ok A c l n hln w hA hn hc he
  obtain ⟨e1, ha8, _, _, _⟩ := ev_ok ((code_inv he).2 i (by rw [hln]; exact hi))
  obtain ⟨b, off, rfl, hb, hr⟩ := hA (by omega)
  have o0 : w.cell? ⟨b, off + i * 3, none⟩ = some (.int .i64 l[i]!.1) := hr i (by omega) 0 _ rfl
  rw [e1] at o0
  have hB : befB l i k = (decide (i ≠ k) && decide (VvE l i (sa l i) ≤ VvE l k (sa l i))) := rfl
  generalize befB l i k = r at *
  have HB := Lib.hid hB
  clear hB
  generalize sa l i = a at *
  have hi0 : (0 : Int) ≤ (i : Int) := by omega
  have hin : (i : Int) < (n : Int) := by omega
  have hk0 : (0 : Int) ≤ (k : Int) := by omega
  have hkn : (k : Int) < (n : Int) := by omega
  have ha0 : (0 : Int) ≤ (a : Int) := by omega
  have ha8' : (a : Int) < 8 := by omega
  clear hr hA he hln e1
  by_cases hik : i = k
  · have hne : ((i : Int) != (k : Int)) = false := by simp [hik]
    have HIK := Lib.hid hik
    clear hik
    go_enter Try.func10, Try.ntmps10
    go_wp2_with (go_at_call 8; refine hcon.mono ?_; rintro e w1 ⟨O, co, hs, rfl, hV, hb1⟩; obtain ⟨hc1, hf1⟩ := bcell hb1)
    go_quiet (fail)
    go_wp2
    go_ret2
    exact ⟨by rw [HB.out, HIK.out]; simp, below_drewN hb1 _⟩
  · have hne : ((i : Int) != (k : Int)) = true := by simp; omega
    have HIK := Lib.hid hik
    clear hik
    go_enter Try.func10, Try.ntmps10
    go_wp2_with (go_at_call 8; refine hcon.mono ?_; rintro e w1 ⟨O, co, hs, rfl, hV, hb1⟩; obtain ⟨hc1, hf1⟩ := bcell hb1; obtain ⟨go, rfl, hgo, hrow⟩ := hV.get (by omega); obtain ⟨gi, ci, hgi, r1, r2⟩ := hrow i hi; obtain ⟨gk, ck, hgk, r3, r4⟩ := hrow k hk; have r2' := r2 a ha8; have r4' := r4 a ha8; clear hrow r2 r4 hV)
    generalize VvE l i a = x at *
    generalize VvE l k a = y at *
    go_quiet (fail)
    go_wp2
    go_ret2
    exact ⟨by rw [HB.out]; simp [HIK.out], below_drewN hb1 _⟩
end Go.Proofs.Ytchpgknaaofapaa
