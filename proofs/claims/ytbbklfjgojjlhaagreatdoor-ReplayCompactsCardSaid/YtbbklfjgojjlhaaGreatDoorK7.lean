/- Package replay: the fact that its statements begin with; sameness of states. -/
import Derived.Test.YtbbklfjgojjlhaaGreatDoorK5
import Derived.Test.YtbbklfjgojjlhaaGreatDoorSB7
namespace Go.Proofs.YtbbklfjgojjlhaaGreatDoor
open Go.RowKit
open Go.Lib hiding intOf

theorem dd_small {u : Nat} (h : u < 10) : decDigits u = [UInt8.ofNat (48 + u)] := by
  rw [decDigits, dif_pos h]
theorem num2 : numC ⟨#[50]⟩ = some 2 := by
  unfold numC
  rw [show atoiAll (bl ⟨#[50]⟩) = .ok 2 from by decide]
  simp only
  rw [if_pos]
  refine ⟨by decide, by decide, ?_⟩
  rw [show itoa 2 = [50] from by rw [show (2 : Int) = ((2 : Nat) : Int) from rfl, itoa_nonneg, dd_small (by decide)]; rfl]
  rfl
theorem num3 : numC ⟨#[51]⟩ = some 3 := by
  unfold numC
  rw [show atoiAll (bl ⟨#[51]⟩) = .ok 3 from by decide]
  simp only
  rw [if_pos]
  refine ⟨by decide, by decide, ?_⟩
  rw [show itoa 3 = [51] from by rw [show (3 : Int) = ((3 : Nat) : Int) from rfl, itoa_nonneg, dd_small (by decide)]; rfl]
  rfl
theorem itoa5 : mk (itoa (3 + 2)) = ⟨#[53]⟩ := by
  rw [show (3 + 2 : Int) = ((5 : Nat) : Int) from rfl, itoa_nonneg, dd_small (by decide)]
  rfl
def l0 : List Rw := [(⟨#[97]⟩, ⟨#[51]⟩)]
def x0 : Ent := ⟨1, 0, ⟨#[103, 114, 111, 119]⟩, ⟨#[97, 32, 50]⟩⟩
theorem low0 : lowK key1 l0 ⟨#[97]⟩ = 0 := by
  unfold lowK l0
  rw [List.countP_cons, List.countP_nil]
  rw [show lsS (key1 (⟨#[97]⟩, ⟨#[51]⟩)) ⟨#[97]⟩ = false from lsS_irr _]
  rfl
theorem has0 : hasK key1 l0 ⟨#[97]⟩ = true := by
  unfold hasK
  rw [low0]
  have : cmpS (key1 l0[0]!) ⟨#[97]⟩ = 0 := by
    unfold cmpS
    rw [show key1 l0[0]! = (⟨#[97]⟩ : ByteArray) from rfl, lsS_irr]
    rfl
  rw [this]
  rfl
theorem put0 : putK key1 l0 (⟨#[97]⟩, ⟨#[53]⟩) = [(⟨#[97]⟩, ⟨#[53]⟩)] := by
  unfold putK
  rw [show key1 ((⟨#[97]⟩, ⟨#[53]⟩) : Rw) = ⟨#[97]⟩ from rfl, has0, low0]
  rfl
theorem check0 : checkL l0 = 0 := by decide
theorem set0 : setC l0 ⟨#[97]⟩ ⟨#[53]⟩ = 0 := by
  unfold setC
  rw [check0, put0]
  decide
theorem grow0 : growC l0 ⟨#[97]⟩ ⟨#[50]⟩ = 0 ∧ growR l0 ⟨#[97]⟩ ⟨#[50]⟩ = [(⟨#[97]⟩, ⟨#[53]⟩)] := by
  have h6 : (getL l0 ⟨#[97]⟩) = (⟨#[51]⟩, 0) := by decide
  constructor
  · unfold growC
    rw [num2]
    simp only
    rw [h6]
    simp only
    rw [num3]
    simp only
    rw [itoa5, if_neg (by decide), if_neg (by decide)]
    exact set0
  · unfold growR
    rw [num2]
    simp only
    rw [h6]
    simp only
    rw [num3]
    simp only
    rw [itoa5, if_neg (by decide), if_neg (by decide)]
    unfold setR
    rw [set0, put0]
    rfl
theorem step0 : stC l0 x0 = 0 ∧ stR l0 x0 = [(⟨#[97]⟩, ⟨#[53]⟩)] := by
  have h2 : chk x0 = 0 := by decide
  have h3 : cutT x0.text = ([97], [50], true) := by decide
  have h4 : x0.kind ≠ kSet := by decide
  have h5 : x0.kind = kGrow := rfl
  constructor
  · unfold stC
    rw [check0, if_neg (by decide), h2, if_neg (by decide), if_neg h4, if_pos h5, h3]
    exact grow0.1
  · unfold stR
    rw [check0, if_neg (by decide), h2, if_neg (by decide), if_neg h4, if_pos h5, h3]
    exact grow0.2

set_option maxRecDepth 100000 in
theorem run_eqR (a b : ByteArray) (w : World) : (Op.equalIn 10000 50 (.agg #[.string a, .string b]) (.agg #[.string a, .string b])).run Tryz.prog w = .ok true w := by
  have u9 := Tryz.underlying9
  have a9 := Tryz.isAgg9
  have z9 := Tryz.sizeOf9
  have hS : Tryz.prog.underlying 50 = some (.struct (Tryz.prog.fieldsOf 50)) := by kernel_rfl
  have hp : Tryz.prog.stoodInHeld 50 = false := by kernel_rfl
  rw [show (10000 : Nat) = 9999 + 1 from rfl, run_equalIn_agg w 9999 50 _ _ hS hp]
  simp only [Program.fieldsOf, Tryz.underlying50]
  go_simp

set_option maxRecDepth 100000 in
set_option maxHeartbeats 2000000 in
theorem fact_any (w : World) (he : Env w) : Calls Tryz.prog 6 #[] w fun e w' => e = .returned (.bool true) ∧ Below w.heap.size w w' := by
  have hbn : Below w.heap.size w (w.alloc (.cells #[.string ⟨#[97]⟩, .string ⟨#[51]⟩] 50)) := (Below.refl _ _).alloc (Nat.le_refl _) _
  have hnew := heap_alloc_new w (.cells #[.string ⟨#[97]⟩, .string ⟨#[51]⟩] 50)
  have hlt : w.heap.size < (w.alloc (.cells #[.string ⟨#[97]⟩, .string ⟨#[51]⟩] 50)).heap.size := (Array.getElem?_eq_some_iff.1 hnew).1
  have hst : StAt l0 (some ⟨w.heap.size, 0, none⟩) 1 (w.alloc (.cells #[.string ⟨#[97]⟩, .string ⟨#[51]⟩] 50)) := by
    refine ⟨fun _ => ⟨w.heap.size, 0, rfl, hlt, fun i hi j u hj => ?_⟩, rfl, fun x hx => ?_, by unfold maxLen; omega, fun h => by cases h⟩
    · obtain rfl : i = 0 := by omega
      match j, hj with
      | 0, hj => have hj : some _ = some u := hj; cases hj; exact cell_of_row _ _ 0 _ _ _ hnew
      | 1, hj => have hj : some _ = some u := hj; cases hj; exact cell_of_row _ _ 1 _ _ _ hnew
    · have : x = (⟨#[97]⟩, ⟨#[51]⟩) := by simpa [l0] using hx
      subst this
      exact ⟨by decide, by decide⟩
  have HSt := Lib.hid (Step_any (some ⟨w.heap.size, 0, none⟩) 1 1 l0 x0 _ hst ⟨by decide, by decide, by decide, by decide⟩ (he.below hbn))
  rw [step0.1, step0.2] at HSt
  have HB := Lib.hid hbn
  unfold valE x0 at HSt
  simp only at HSt
  have hbe := fun W => run_eqR ⟨#[97]⟩ ⟨#[53]⟩ W
  clear hst hlt hnew hbn
  go_enter Tryz.func6, Tryz.ntmps6
  go_wp2_with (go_at_call 18; go_loud (refine HSt.out.mono ?_; rintro e w1 ⟨A1, c1, rfl, ho1, hb1⟩; obtain ⟨g1, cap1, hv1, _, hlt1⟩ := ho1.form (by decide); have hA1 : A1 = some ⟨g1, 0, none⟩ := (by injection hv1); subst hA1; have r0 := ho1.cellAt 0 (by decide); have r1 := ho1.cellAt 1 (by decide); simp only [rws, rowsV, List.flatMap_cons, List.flatMap_nil, rwV, List.append_nil] at r0 r1; clear hv1))
  go_ret
  exact ⟨rfl, HB.out.trans (hb1.mono HB.out.size)⟩
end Go.Proofs.YtbbklfjgojjlhaaGreatDoor
