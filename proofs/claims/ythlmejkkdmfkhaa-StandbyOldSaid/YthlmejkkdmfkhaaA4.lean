/- Package standby: take of nothing, Drop, Repeat. -/
import Derived.Test.YthlmejkkdmfkhaaA3
namespace Go.Proofs.Ythlmejkkdmfkhaa
open Go.RowKit

def Pr.drop (p : Pr) (k : Nat) : Pr := if k < p.ws.length then p.take k else p
def Pr.hasE (p : Pr) (k : Nat) : Int := if k < p.ws.length then 0 else 8
def Pr.again (p : Pr) (k : Nat) : Pr := if k < p.ws.length then p.push [p.ws[k]!] else p
def Pr.againE (p : Pr) (k : Nat) : Int := if k < p.ws.length then p.pushE [p.ws[k]!] else 8

section
variable {g : Nat} {p : Pr} {vp vs vw : Value} {w : World}
theorem Pp.more {O : Nat → Prop} {E : Ending} {w w1 w2 : World} {e : Ending} (h : Pp g O p E w e w1) (hb : Below w1.heap.size w1 w2) (hg : g ≤ w1.heap.size) : Pp g O p E w e w2 := by
  obtain ⟨vp, vs, vw, he, hp, hc⟩ := h
  exact ⟨vp, vs, vw, he, hp.below hb, hc.trans (Ch.of_below hb hg)⟩
theorem Pp.lt {O : Nat → Prop} {E : Ending} {w w1 : World} {e : Ending} (h : Pp g O p E w e w1) : g < w1.heap.size := by
  obtain ⟨vp, vs, vw, he, hp, hc⟩ := h
  exact hp.lt
theorem Pp.of {O : Nat → Prop} {E : Ending} {w w1 : World} {vp' vs' vw' : Value} (hp : PairAt g p vp' vs' vw' w1) (hc : Ch g O (Own g vp' vs' vw') w w1) : Pp g O p E w E w1 := ⟨_, _, _, rfl, hp, hc⟩

set_option maxRecDepth 100000 in
set_option maxHeartbeats 2000000 in
theorem take_no (h : PairAt g p vp vs vw w) (k : Nat) (hk : p.ws.length ≤ k) (hn : p.ws.length ≤ 1000) :
    Calls Try.prog 31 #[.pointer (some ⟨g, 0, none⟩), .int .i64 (k : Int)] w fun e w' => e = .returned (.tuple #[.agg #[.int .i64 0, .int .i64 0, .bool false, .string { data := #[] }], .int .i64 8]) ∧ Below w.heap.size w w' := by
  have ho := h.ow
  obtain ⟨A, c, rfl⟩ := own_shape ho
  have c2 := h.cell 2
  have hlt := h.lt
  have k0 : (0 : Int) ≤ (k : Int) := by omega
  have kn : ¬ (k : Int) < (p.ws.length : Int) := by omega
  have hne : g ≠ w.heap.size := by omega
  generalize hq : p.ws.length = n at *
  have HQ := Lib.hid hq
  clear h ho hq
  go_enter Try.func31, Try.ntmps31
  go_wp2
  refine bodyPost_ret (v := .tuple #[.agg #[.int .i64 0, .int .i64 0, .bool false, .string { data := #[] }], .int .i64 8]) (by simp [results, Try.results31, go_sem]) rfl ⟨rfl, ?_⟩
  exact (Below.refl _ _).alloc (Nat.le_refl _) _

set_option maxHeartbeats 2000000 in
theorem Drop_any (h : PairAt g p vp vs vw w) (k : Nat) (hn : p.ws.length ≤ 1000) :
    Calls Try.prog 20 #[.pointer (some ⟨g, 0, none⟩), .int .i64 (k : Int)] w (Pp g (Own g vp vs vw) (p.drop k) (.returned (.int .i64 (p.hasE k))) w) := by
  have HH := Lib.hid h
  by_cases hk : k < p.ws.length
  · have HD : Hid (p.drop k = p.take k ∧ p.hasE k = 0) := Lib.hid ⟨if_pos hk, if_pos hk⟩
    have ht := Lib.hid (take_yes h k hk hn)
    have hm : ∃ m, p.ws[k]! = m := ⟨_, rfl⟩
    obtain ⟨m, hm⟩ := hm
    rw [hm] at ht
    unfold msgOf at ht
    obtain ⟨m1, m2, m3, m4⟩ := m
    clear h hk hm
    go_enter Try.func20, Try.ntmps20
    go_wp2_with (go_at_call 31; refine ht.out.mono ?_; rintro e w1 ⟨vp1, vs1, vw1, rfl, hp1, hc1⟩; have HP := Lib.hid (And.intro hp1 hc1); clear hp1 hc1)
    go_ret
    rw [HD.out.1, HD.out.2]
    exact (Pp.of HP.out.1 HP.out.2).more ((Below.refl _ _).alloc (Nat.le_refl _) _) (Nat.le_of_lt HP.out.1.lt)
  · have HD : Hid (p.drop k = p ∧ p.hasE k = 8) := Lib.hid ⟨if_neg hk, if_neg hk⟩
    have ht := Lib.hid (take_no h k (by omega) hn)
    clear h hk
    go_enter Try.func20, Try.ntmps20
    go_wp2_with (go_at_call 31; refine ht.out.mono ?_; rintro e w1 ⟨rfl, hb1⟩)
    go_ret
    rw [HD.out.1, HD.out.2]
    have hp1 := HH.out.below hb1
    exact Pp.more (Pp.of hp1 (Ch.of_below hb1 (Nat.le_of_lt HH.out.lt))) ((Below.refl _ _).alloc (Nat.le_refl _) _) (Nat.le_of_lt hp1.lt)

set_option maxRecDepth 100000 in
set_option maxHeartbeats 2000000 in
theorem Repeat_any (h : PairAt g p vp vs vw w) (k : Nat) (hn : p.ws.length ≤ 1000) :
    Calls Try.prog 29 #[.pointer (some ⟨g, 0, none⟩), .int .i64 (k : Int)] w (Pp g (Own g vp vs vw) (p.again k) (.returned (.int .i64 (p.againE k))) w) := by
  have HH := Lib.hid h
  have ho := h.ow
  obtain ⟨A, c, rfl⟩ := own_shape ho
  have c2 := h.cell 2
  have hlt := h.lt
  have k0 : (0 : Int) ≤ (k : Int) := by omega
  by_cases hk : k < p.ws.length
  · have HD : Hid (p.again k = p.push [p.ws[k]!] ∧ p.againE k = p.pushE [p.ws[k]!]) := Lib.hid ⟨if_pos hk, if_pos hk⟩
    obtain ⟨g0, cap, hv, hg0, hlt0⟩ := ho.form (by omega)
    have hA : A = some ⟨g0, 0, none⟩ := by injection hv
    subst hA
    obtain ⟨o0, o1, o2, o3⟩ := wire_cells ho hk
    have hm : ∃ m, p.ws[k]! = m := ⟨_, rfl⟩
    obtain ⟨m, hm⟩ := hm
    rw [hm] at o0 o1 o2 o3 HD
    have HS : Hid (∀ W : World, PairAt g p vp vs (.slice (some ⟨g0, 0, none⟩) p.ws.length c) W → ∀ b, W.heap[b]? = some (.cells #[.int .i64 m.term, .int .i64 m.num, .bool m.ack, .string m.text] 46 (0, 0)) → Calls Try.prog 33 #[.pointer (some ⟨g, 0, none⟩), .slice (some ⟨b, 0, none⟩) 1 1] W (Pp g (Own g vp vs (.slice (some ⟨g0, 0, none⟩) p.ws.length c)) (p.push [m]) (.returned (.int .i64 (p.pushE [m]))) W)) := Lib.hid (fun W hW b hb => send_any hW [m] (some ⟨b, 0, none⟩) 1 (fun _ => ⟨b, 0, rfl, (Array.getElem?_eq_some_iff.1 hb).1, fun i hi j u hu => by
      have hi : i < 1 := hi
      obtain rfl : i = 0 := by omega
      rw [cell_of_row W b _ _ 46 (0, 0) hb, ← Array.getElem?_toList]
      simpa [rowM, msgV] using hu⟩) (fun h => by cases h) hn (by simp))
    obtain ⟨m1, m2, m3, m4⟩ := m
    simp only [] at o0 o1 o2 o3 HS
    have kn : (k : Int) < (p.ws.length : Int) := by omega
    clear h ho hv hm
    go_enter Try.func29, Try.ntmps29
    go_wp2_with (go_at_call 33; go_loud (refine (HS.out _ (by exact HH.out.below ((Below.refl _ _).alloc (Nat.le_refl _) _)) w.heap.size (by exact heap_alloc_new w _)).mono ?_; rintro e w1 ⟨vp1, vs1, vw1, rfl, hp1, hc1⟩; have HP := Lib.hid (And.intro hp1 hc1); clear hp1 hc1))
    go_ret
    rw [HD.out.1, HD.out.2]
    exact Pp.of HP.out.1 ((Ch.of_below ((Below.refl _ _).alloc (Nat.le_refl _) _) (Nat.le_of_lt hlt)).trans HP.out.2)
  · have HD : Hid (p.again k = p ∧ p.againE k = 8) := Lib.hid ⟨if_neg hk, if_neg hk⟩
    have kn : ¬ (k : Int) < (p.ws.length : Int) := by omega
    clear h ho
    go_enter Try.func29, Try.ntmps29
    go_wp2
    go_ret
    rw [HD.out.1, HD.out.2]
    exact Pp.of HH.out (Ch.refl _ _ _)
end
end Go.Proofs.Ythlmejkkdmfkhaa
