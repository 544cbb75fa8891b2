/- rulesFact, the fixed example. -/
import Derived.Test.YtdmecagdjbjgjaaR19
import Derived.Test.YtdmecagdjbjgjaaR23
namespace Go.Proofs.Ytdmecagdjbjgjaa
open Go.RowKit

def fxT (i : Nat) : Tr := if i = 0 then ⟨0, 0, 0, 0, 0, 0, 0, 999, 0, 0, 0, 0, 0⟩ else ⟨1, 0, 0, 0, 0, 0, 0, 1000, 0, 0, 0, 0, 0⟩
def fxS (N : Nat) : Sc := ⟨0, some ⟨N, 0, none⟩, 2, 2, none, 0, 0, fxT, fun _ => ⟨none, 0, 0, fun _ => (0, 0), 0, 0⟩⟩
def lowB : ByteArray := ⟨#[108, 111, 119]⟩
theorem fx0 : firstE (tkE fxT) 2 = 0 := by decide
theorem fx_check (N : Nat) : checkE (fxS N) = 0 := by
  unfold checkE
  rw [if_neg (by show ¬ (32 < 2 ∨ 12 < 0); omega), if_neg (by show ¬ ((0 : Int) < 0 ∨ (200000 : Int) < 0); omega), if_neg (by show ¬ firstE (tkE fxT) 2 ≠ 0; rw [fx0]; simp)]
  rfl
theorem fx_sing (N : Nat) : singA (fxS N) lowB 3 (fun x => decide (x.h < 1000)) = [⟨lowB, 3, 0, -1⟩] := by
  unfold singA
  rw [if_pos (fx_check N)]
  show singL fxT lowB 3 (fun x => decide (x.h < 1000)) 2 = [⟨lowB, 3, 0, -1⟩]
  decide
theorem AllL_one {x : Al} {R : List Al} (h : AllL [x] R) : R = [x] := by
  obtain ⟨S, hp, _, rfl⟩ := h
  have : S = [x] := List.perm_singleton.1 hp
  subst this
  rfl

set_option maxRecDepth 100000 in
set_option maxHeartbeats 4000000 in
theorem fx_all (p N M : Nat) (W w1 : World) (hW : W = (w1.alloc (.cells #[.iface 113 (.agg #[.string lowB, .int .i64 3, .func (.func 41) #[] #[.pointer (some ⟨p, 0, none⟩)]])] 30)).alloc (.cells #[.int .i64 0, .int .i64 0, .int .i64 0, .int .i64 0, .int .i64 0, .int .i64 0, .int .i64 0, .int .i64 999, .int .i64 0, .int .i64 0, .int .i64 0, .int .i64 0, .int .i64 0, .int .i64 1, .int .i64 0, .int .i64 0, .int .i64 0, .int .i64 0, .int .i64 0, .int .i64 0, .int .i64 1000, .int .i64 0, .int .i64 0, .int .i64 0, .int .i64 0, .int .i64 0] 41))
    (hp : w1.cell? ⟨p, 0, none⟩ = some (.int .i64 1000)) (hN : w1.heap.size = N) (hM : w1.heap.size + 1 = M) :
    Calls Try.prog 16 #[.slice (some ⟨N, 0, none⟩) 1 1, .agg #[.int .i64 0, .slice (some ⟨M, 0, none⟩) 2 2, .slice none 0 0]] W fun E w' => (∃ (V : Option Addr) (cv : Nat), E = .returned (.tuple #[.slice V 1 cv, .int .i64 0]) ∧ w'.ownsRow W.heap.size 51 4 (.slice V 1 cv) 1 (alL ⟨lowB, 3, 0, -1⟩)) ∧ Below W.heap.size W w' := by
  have hpl : p < w1.heap.size := World.block_lt_of_cell? w1 ⟨p, 0, none⟩ hp
  obtain ⟨u, hu⟩ : ∃ u, w1.alloc (.cells #[.iface 113 (.agg #[.string lowB, .int .i64 3, .func (.func 41) #[] #[.pointer (some ⟨p, 0, none⟩)]])] 30) = u := ⟨_, rfl⟩
  rw [hu] at hW
  have b0 : Below w1.heap.size w1 u := by rw [← hu]; exact (Below.refl _ _).alloc (Nat.le_refl _) _
  have s0 : u.heap.size = w1.heap.size + 1 := by rw [← hu]; simp
  have y0 : u.heap[w1.heap.size]? = some (.cells #[.iface 113 (.agg #[.string lowB, .int .i64 3, .func (.func 41) #[] #[.pointer (some ⟨p, 0, none⟩)]])] 30 (0, 0)) := by rw [← hu]; exact heap_alloc_new _ _
  have b1 : Below u.heap.size u W := by rw [hW]; exact (Below.refl _ _).alloc (Nat.le_refl _) _
  have s1 : W.heap.size = w1.heap.size + 1 + 1 := by rw [hW]; simp [s0]
  have y1 := heap_alloc_new u (.cells #[.int .i64 0, .int .i64 0, .int .i64 0, .int .i64 0, .int .i64 0, .int .i64 0, .int .i64 0, .int .i64 999, .int .i64 0, .int .i64 0, .int .i64 0, .int .i64 0, .int .i64 0, .int .i64 1, .int .i64 0, .int .i64 0, .int .i64 0, .int .i64 0, .int .i64 0, .int .i64 0, .int .i64 1000, .int .i64 0, .int .i64 0, .int .i64 0, .int .i64 0, .int .i64 0] 41)
  rw [← hW, s0, hM] at y1
  have y0' := (b1.block w1.heap.size (by omega)).trans y0
  rw [hN] at y0'
  have hcp : W.cell? ⟨p, 0, none⟩ = some (.int .i64 1000) := (b1.cell (p := ⟨p, 0, none⟩) (by show p < u.heap.size; omega)).trans ((b0.cell (p := ⟨p, 0, none⟩) hpl).trans hp)
  have hS : (fxS M).at_ W W.heap.size := by
    refine ⟨Nat.le_refl _, fun _ => ⟨M, 0, rfl, by omega, fun i hi j v hj => ?_⟩, fun h => absurd h (Nat.lt_irrefl 0), fun i hi => absurd hi (by show ¬ i < 0; omega)⟩
    have hi : i < 2 := hi
    rw [Nat.zero_add, cell_of_row W M _ _ 41 (0, 0) y1]
    have hj13 : j < 13 := (List.getElem?_eq_some_iff.1 hj).1
    rcases (show i = 0 ∨ i = 1 by omega) with rfl | rfl
    · rw [← hj]
      rcases (show j = 0 ∨ j = 1 ∨ j = 2 ∨ j = 3 ∨ j = 4 ∨ j = 5 ∨ j = 6 ∨ j = 7 ∨ j = 8 ∨ j = 9 ∨ j = 10 ∨ j = 11 ∨ j = 12 by omega) with rfl | rfl | rfl | rfl | rfl | rfl | rfl | rfl | rfl | rfl | rfl | rfl | rfl <;> rfl
    · rw [← hj]
      rcases (show j = 0 ∨ j = 1 ∨ j = 2 ∨ j = 3 ∨ j = 4 ∨ j = 5 ∨ j = 6 ∨ j = 7 ∨ j = 8 ∨ j = 9 ∨ j = 10 ∨ j = 11 ∨ j = 12 by omega) with rfl | rfl | rfl | rfl | rfl | rfl | rfl | rfl | rfl | rfl | rfl | rfl | rfl <;> rfl
  have hA : Sl W W.heap.size 1 (some ⟨N, 0, none⟩) 1 (fun i => [(fun _ => Value.iface 113 (.agg #[.string lowB, .int .i64 3, .func (.func 41) #[] #[.pointer (some ⟨p, 0, none⟩)]])) i]) := fun _ => by
    refine ⟨N, 0, rfl, by omega, fun i hi j v hj => ?_⟩
    have : j = 0 := by
      have := (List.getElem?_eq_some_iff.1 hj).1
      simpa using this
    subst this
    obtain rfl : i = 0 := by omega
    rw [cell_of_row W N _ _ 30 (0, 0) y0']
    exact hj
  have hcon := All_any (some ⟨N, 0, none⟩) 1 1 _ (fun _ => [⟨lowB, 3, 0, -1⟩]) (fxS M) W hS hA (by omega)
    (fun _ i hi => Or.inr (Or.inr (Or.inl ⟨_, rfl, fun W' hb => by
      have := single41 lowB 3 p (fun x => decide (x.h < 1000)) (fxS M) W' (hS.step hb) (fun W'' x hb2 => low1_any (fxS M) x p 1000 W'' ((hb2.cell (p := ⟨p, 0, none⟩) (by show p < W'.heap.size; have := hb.size; omega)).trans ((hb.cell (p := ⟨p, 0, none⟩) (by show p < W.heap.size; omega)).trans hcp)))
      rw [fx_sing] at this
      exact this⟩))) (fun _ i hi => by simp)
  refine hcon.mono ?_
  rintro E w' ⟨h, hb⟩
  refine ⟨?_, hb⟩
  rcases h with ⟨h, _⟩ | ⟨_, ⟨i, _, h⟩, _⟩ | ⟨_, _, V, cv, R, hE, hL, hO⟩
  · exact absurd (fx_check M) h
  · cases h
  · have := AllL_one (x := ⟨lowB, 3, 0, -1⟩) hL
    subst this
    exact ⟨V, cv, hE, by simpa [rowsV] using hO⟩

set_option maxRecDepth 100000 in
set_option maxHeartbeats 4000000 in
theorem fact_any (w : World) : Calls Try.prog 9 #[] w fun E w' => E = .returned (.bool true) ∧ Below w.heap.size w w' := by
  have HL := Lib.hid (fun W => Low_any 1000 3 W (by omega) (by omega))
  have HAl := Lib.hid fx_all
  have HQ := Lib.hid (fun W => run_eqA ⟨⟨#[108, 111, 119]⟩, 3, 0, -1⟩ ⟨⟨#[108, 111, 119]⟩, 3, 0, -1⟩ W)
  have hbe := HQ.out
  rw [decide_eq_true rfl] at hbe
  dsimp only at hbe
  go_enter Try.func9, Try.ntmps9
  go_wp2_with (first
    | (go_at_call 22; go_loud (refine (HL.out _).mono ?_; rintro E w1 ⟨⟨rfl, hp, hlt⟩, hb1⟩; have HB1 := Lib.hid hb1; clear hb1))
    | (go_at_call 16; go_loud (refine (HAl.out w.heap.size _ _ _ w1 rfl hp rfl (by simp)).mono ?_; rintro E w2 ⟨⟨V, cv, rfl, hO⟩, hb2⟩; obtain ⟨gg, cap, hv, hbg, hlg⟩ := hO.form (by omega); obtain rfl : V = some ⟨gg, 0, none⟩ := (by injection hv); have q0 := hO.cells rfl 0 _ rfl; have q1 := hO.cells rfl 1 _ rfl; have q2 := hO.cells rfl 2 _ rfl; have q3 := hO.cells rfl 3 _ rfl; rw [Addr.add_mid] at q0 q1 q2 q3; simp only [Nat.zero_add] at q0 q1 q2 q3; unfold lowB at q0; have HB2 := Lib.hid (HB1.out.trans (Below.mono (Below.trans ((((Below.refl w1.heap.size w1).alloc (Nat.le_refl _) _).alloc (by simp) _)) (hb2.mono (by simp; omega))) HB1.out.size)); clear hb2 hv hO)))
  all_goals
    go_ret
    exact ⟨rfl, HB2.out⟩
end Go.Proofs.Ytdmecagdjbjgjaa
