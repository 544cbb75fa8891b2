/- Package screen: the fixed example, and Cell for every frame. -/
import Derived.Test.YtlkdjnmehnibmaaA5
import Derived.Test.YtlkdjnmehnibmaaCut
namespace Go.Proofs.Ytlkdjnmehnibmaa
open Go.RowKit

theorem fact_row : rowStr 3 (fP (fun i => cellOf 0 0 10 (3 : Nat) (1 : Nat) ((fun _ => ((0 : Int), (0 : Int))) i)) 1 (1 - 1 - 0)) = ByteArray.mk #[32, 111, 32] := by decide
theorem Picture_fact (b : Nat) (w : World) (hb : w.heap[b]? = some (.cells #[.int .i64 0, .int .i64 0] 23 (0, 0))) :
    Calls Try.prog 13 #[.agg #[.int .i64 0, .int .i64 0, .int .i64 10, .int .i64 3, .int .i64 1], .slice none 0 0, .slice (some ⟨b, 0, none⟩) 1 1] w fun e w' => ∃ A' c', e = .returned (.tuple #[.slice A' 1 c', .int .i64 0]) ∧ w'.ownsRow w.heap.size 9 1 (.slice A' 1 c') 1 [.string (ByteArray.mk #[32, 111, 32])] ∧ Below w.heap.size w w' := by
  have := Picture_pts 0 0 10 3 1 (some ⟨b, 0, none⟩) 1 1 (fun _ => (0, 0)) w (by omega) (by omega) (by omega) (by omega) (by omega) (by omega) (by decide)
    (fun _ => ⟨b, 0, rfl, (Array.getElem?_eq_some_iff.1 hb).1, fun i hi j v hj => by
      obtain rfl : i = 0 := by omega
      rw [cell_of_row w b _ _ 23 (0, 0) hb]
      simpa [ptRow] using hj⟩) (by omega) (fun i hi => ⟨by omega, by omega, by omega, by omega⟩)
  exact this.mono fun e w' ⟨A', c', h1, h2, h3⟩ => ⟨A', c', h1, by
    rw [show ((List.range 1).map fun k => Value.string (rowStr 3 (fP (fun i => cellOf 0 0 10 (3 : Nat) (1 : Nat) ((fun _ => ((0 : Int), (0 : Int))) i)) 1 (1 - 1 - k)))) = [Value.string (ByteArray.mk #[32, 111, 32])] from by
      show [Value.string _] = _
      rw [fact_row]] at h2
    exact h2, h3⟩

set_option maxRecDepth 100000 in
set_option maxHeartbeats 4000000 in
theorem fact_any (w : World) : Calls Try.prog 10 #[] w fun e w' => e = .returned (.bool true) ∧ Below w.heap.size w w' := by
  have HPF := Lib.hid (fun b W h => Picture_fact b W h)
  go_enter Try.func10, Try.ntmps10
  go_wp2_with (go_at_call 13; go_loud (refine (HPF.out w.heap.size _ (by exact heap_alloc_new w _)).mono ?_; rintro e w2 ⟨A, c, rfl, hown, hb2⟩; have HO := Lib.hid (And.intro hown hb2); obtain ⟨g, cap, hlv, hgl, hltl⟩ := hown.form (by decide); have hA : A = some ⟨g, 0, none⟩ := (Value.slice.inj hlv).1; subst hA; have o0 := hown.cellAt 0 (by decide); clear hown hb2 hlv))
  go_ret
  exact ⟨rfl, ((Below.refl _ w).alloc (Nat.le_refl _) _).trans (HO.out.2.mono (by simp))⟩

/-- Cell for every frame. -/
def cellR (cx cy sc wd ht x y : Int) : Int × Int := if sideE wd ht = 0 then ((x - cx) / sc + wd / 2, (y - cy) / sc + ht / 2) else (0, 0)
def cellV (cx cy sc wd ht x y : Int) : Bool := if sideE wd ht = 0 then visB wd ht ((x - cx) / sc + wd / 2) ((y - cy) / sc + ht / 2) else false
theorem sideE_cases (wd ht : Int) : sideE wd ht = 0 ∨ sideE wd ht = 4 := by
  unfold sideE
  split <;> simp
theorem Cell_all (cx cy sc wd ht x y : Int) (w : World) (h1 : -1000000 ≤ cx) (h2 : cx ≤ 1000000) (h3 : -1000000 ≤ cy) (h4 : cy ≤ 1000000) (h5 : 1 ≤ sc) (h6 : sc ≤ 50000) (hx : -1000000 ≤ x ∧ x ≤ 1000000) (hy : -1000000 ≤ y ∧ y ≤ 1000000) :
    Calls Try.prog 9 #[.agg #[.int .i64 cx, .int .i64 cy, .int .i64 sc, .int .i64 wd, .int .i64 ht], .agg #[.int .i64 x, .int .i64 y]] w fun e w' => e = .returned (.tuple #[.agg #[.int .i64 (cellR cx cy sc wd ht x y).1, .int .i64 (cellR cx cy sc wd ht x y).2], .bool (cellV cx cy sc wd ht x y), .int .i64 (sideE wd ht)]) ∧ Below w.heap.size w w' := by
  rcases sideE_cases wd ht with hb | hb
  · have h := Cell_ok cx cy sc wd ht x y w h1 h2 h3 h4 h5 h6 hb hx hy _ _ rfl rfl
    unfold cellR cellV
    rw [hb, if_pos rfl, if_pos rfl]
    exact h
  · have h := Cell_bad cx cy sc wd ht x y w h1 h2 h3 h4 h5 h6 hb
    unfold cellR cellV
    rw [hb, if_neg (by decide), if_neg (by decide)]
    exact h
theorem scale_div (n x cx sc : Int) (hn : 0 < n) : (n * x - n * cx) / (n * sc) = (x - cx) / sc := by
  rw [← Int.mul_sub, Int.mul_ediv_mul_of_pos _ _ hn]
theorem cellR_scale (n cx cy sc wd ht x y : Int) (hn : 0 < n) : cellR (n * cx) (n * cy) (n * sc) wd ht (n * x) (n * y) = cellR cx cy sc wd ht x y := by
  unfold cellR
  rw [scale_div n x cx sc hn, scale_div n y cy sc hn]
theorem cellV_scale (n cx cy sc wd ht x y : Int) (hn : 0 < n) : cellV (n * cx) (n * cy) (n * sc) wd ht (n * x) (n * y) = cellV cx cy sc wd ht x y := by
  unfold cellV
  rw [scale_div n x cx sc hn, scale_div n y cy sc hn]
end Go.Proofs.Ytlkdjnmehnibmaa
