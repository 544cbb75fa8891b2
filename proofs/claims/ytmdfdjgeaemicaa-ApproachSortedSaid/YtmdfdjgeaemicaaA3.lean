/- Package approach: the contract of Times. -/
import Derived.Test.YtmdfdjgeaemicaaA2
import Derived.Test.YtmdfdjgeaemicaaApp
namespace Go.Proofs.Ytmdfdjgeaemicaa
open Go.RowKit

/-- The landing times of the first k arrivals. -/
def timesL (g : Nat → Int) (its : Nat → It) : Nat → List Int
  | 0 => []
  | k + 1 => timesL g its k ++ [nextT g (fun k => (its k).wk) id (fun j => (timesL g its k).getD j 0) (its k).rd (its k).wk k]

def tT (g : Nat → Int) (its : Nat → It) (i : Nat) : Int := (timesL g its (i + 1)).getD i 0

theorem timesL_len {g : Nat → Int} {its : Nat → It} : ∀ k, (timesL g its k).length = k
  | 0 => rfl
  | k + 1 => by simp [timesL, timesL_len k]

theorem timesL_get {g : Nat → Int} {its : Nat → It} : ∀ k j, j < k → (timesL g its k).getD j 0 = tT g its j
  | 0, j, h => by omega
  | k + 1, j, h => by
    by_cases e : j = k
    · subst e; rfl
    · have hl := timesL_len (g := g) (its := its) k
      rw [← timesL_get k j (by omega)]
      simp only [timesL, List.getD_eq_getElem?_getD]
      rw [List.getElem?_append_left (by omega)]

theorem timesL_eq {g : Nat → Int} {its : Nat → It} (k : Nat) : timesL g its k = (List.range k).map (tT g its) := by
  apply List.ext_getElem
  · simp [timesL_len]
  · intro i h1 h2
    have hl := timesL_len (g := g) (its := its) k
    have := timesL_get (g := g) (its := its) k i (by omega)
    rw [List.getD_eq_getElem?_getD, List.getElem?_eq_getElem h1] at this
    simpa using this

theorem nextT_congr {g : Nat → Int} {wk : Nat → Int} {od od' : Nat → Nat} {ts ts' : Nat → Int} {r w : Int} : ∀ k, (∀ j, j < k → od j = od' j ∧ ts j = ts' j) → nextT g wk od ts r w k = nextT g wk od' ts' r w k
  | 0, _ => rfl
  | k + 1, h => by
    simp only [nextT]
    rw [nextT_congr k (fun j hj => h j (by omega)), (h k (by omega)).1, (h k (by omega)).2]

theorem tT_eq {g : Nat → Int} {its : Nat → It} (k : Nat) : tT g its k = nextT g (fun k => (its k).wk) id (tT g its) (its k).rd (its k).wk k := by
  have hl := timesL_len (g := g) (its := its) k
  unfold tT
  simp only [timesL, List.getD_eq_getElem?_getD]
  rw [List.getElem?_append_right (by omega), hl, Nat.sub_self]
  simp only [List.getElem?_cons_zero, Option.getD_some]
  refine nextT_congr k (fun j hj => ⟨rfl, ?_⟩)
  have := timesL_get (g := g) (its := its) k j hj
  rw [List.getD_eq_getElem?_getD] at this
  rw [this]; rfl

theorem tT_bd {g : Nat → Int} {its : Nat → It} {n : Nat} (hg : ∀ i, i < 16 → gapOk (g i)) (hi : ∀ i, i < n → (its i).ok) : ∀ k, k < n → 0 ≤ tT g its k ∧ tT g its k ≤ 200000 + 1000 * k := by
  intro k
  induction k using Nat.strongRecOn with
  | _ k ih =>
    intro hk
    have hok := hi k hk
    unfold It.ok at hok
    rw [tT_eq]
    rcases Nat.eq_zero_or_pos k with rfl | hp
    · simp only [nextT]; omega
    · have := nextT_bd (g := g) (wk := fun k => (its k).wk) (od := id) (ts := tT g its) (r := (its k).rd) (w := (its k).wk) (m := k) (T := 200000 + 1000 * (k - 1 : Nat)) (by omega) (by omega) hg
        (fun j hj => by have := hi j (by omega); unfold It.ok at this; exact ⟨this.1, this.2.1⟩) (fun j hj => by have := ih j hj (by omega); omega) k (Nat.le_refl _)
      omega

theorem int_info : (Try.prog.info? 3).map (fun i => (i.zero, i.size, i.bytes)) = some (some (.int .i64 0), 1, 8) := by kernel_rfl

/-- Times: what it returns for arrivals that are not valid. -/
theorem Times_bad (A : Option Addr) (n c : Nat) (its : Nat → It) (G : Array Value) (g : Nat → Int) (w : World) (hA : Sl w w.heap.size 4 A n (fun i => (its i).row)) (hn : n ≤ maxLen) (hG : Gaps G g)
    (hc : checkCode n its g ≠ 0) :
    Calls Try.prog 8 #[.slice A n c, .agg G] w fun e w' => e = .returned (.tuple #[.slice none 0 0, .int .i64 (checkCode n its g)]) ∧ Below w.heap.size w w' := by
  have HS := Lib.hid hG.1
  have hb0 : Below w.heap.size w (w.alloc (.cells G 24)) := (Below.refl _ _).alloc (Nat.le_refl _) _
  have hA1 := (hA.below hb0).more hb0.size
  have hne : (checkCode n its g != 0) = true := by rw [bne_iff_ne]; exact hc
  have hne2 : (checkCode n its g == 0) = false := beq_eq_false_iff_ne.2 hc
  go_enter Try.func8, Try.ntmps8
  go_wp2_with (first
    | (refine wpList_load_row rfl 24 _ rfl w.heap.size rfl 24 G (0, 0) _ (heap_alloc_new w _) Try.underlying24 rfl (by rw [HS.out]; kernel_rfl) ?_)
    | (go_at_call 10; refine (Check_any A n c its G g _ hA1 hn hG).mono ?_; rintro e w1 ⟨rfl, hb1⟩))
  go_ret2
  exact ⟨rfl, hb0.trans (hb1.mono hb0.size)⟩

set_option maxRecDepth 100000 in
set_option maxHeartbeats 2000000 in
/-- Times: for valid arrivals. -/
theorem Times_ok (A : Option Addr) (n c : Nat) (its : Nat → It) (G : Array Value) (g : Nat → Int) (w : World) (hA : Sl w w.heap.size 4 A n (fun i => (its i).row)) (hn : n ≤ maxLen) (hG : Gaps G g)
    (hc : checkCode n its g = 0) :
    Calls Try.prog 8 #[.slice A n c, .agg G] w fun e w' => ∃ v, e = .returned (.tuple #[v, .int .i64 0]) ∧ w'.ownsRow w.heap.size 3 1 v n (intsV ((List.range n).map (tT g its))) ∧ Below w.heap.size w w' := by
  obtain ⟨h32, hgap, hits⟩ := checkCode_inv hc
  have HS := Lib.hid hG.1
  have HC := Lib.hid hc
  have HGAP := Lib.hid hgap
  have HITS := Lib.hid hits
  have BD := Lib.hid (tT_bd hgap hits)
  clear hc hgap hits
  have hb0 : Below w.heap.size w (w.alloc (.cells G 24)) := (Below.refl _ _).alloc (Nat.le_refl _) _
  have hA1 := (hA.below hb0).more hb0.size
  obtain ⟨i0, J0, J1, J2, J3⟩ := info_parts int_info
  go_enter Try.func8, Try.ntmps8
  go_wp2_with (first
    | (refine wpList_load_row rfl 24 _ rfl w.heap.size rfl 24 G (0, 0) _ (heap_alloc_new w _) Try.underlying24 rfl (by rw [HS.out]; kernel_rfl) ?_)
    | (go_at_call 10; refine (Check_any A n c its G g _ hA1 hn hG).mono ?_; rintro e w1 ⟨rfl, hb1⟩; rw [HC.out]))
  have hbx1 : Hid (w1.heap[w.heap.size]? = some (.cells G 24 (0, 0))) := (hb1.block _ (by simp)).trans (heap_alloc_new w _)
  have hbel1 : Below w.heap.size w w1 := hb0.trans (hb1.mono hb0.size)
  go_loopw [7, 8, 18] (fun vo vt k wr => ∃ (j co ct : Nat) (O T : Option Addr), j ≤ n ∧ k = .int .i64 j ∧ vo = .slice O j co ∧ vt = .slice T j ct ∧
      wr.ownsRow (w.heap.size + 1) 3 1 vo j (intsV ((List.range j).map fun i : Nat => (i : Int))) ∧ wr.ownsRow (w.heap.size + 1) 3 1 vt j (intsV ((List.range j).map (tT g its))) ∧ ApartV vo vt ∧
      Hid (wr.heap[w.heap.size]? = some (.cells G 24 (0, 0))) ∧ Hid (w.heap.size + 1 ≤ wr.heap.size) ∧ Below w.heap.size w wr) (fun _ _ k _ => n - (intOf k).toNat)
  case atStart => exact ⟨0, 0, 0, none, none, by omega, rfl, rfl, rfl, World.ownsRow_nil _ _ _ _, World.ownsRow_nil _ _ _ _, apart_nil, hbx1, by have := hb1.size; simp at this; exact this, hbel1⟩
  case round =>
    obtain ⟨j, co, ct, O, T, hj, rfl, rfl, rfl, hvo, hvt, hap, hbx, hsz, hbel⟩ := hrel
    by_cases hlt : j < n
    · have hA2 := (hA.below hbel).more hbel.size
      have hO2 : Sl wr wr.heap.size 1 O j (fun k => [.int .i64 ((id k : Nat) : Int)]) := Sl_ints hvo
      have hT2 := Sl_ints hvt
      have hsz0 := hsz.out
      have tok1 : True := trivial
      have tok2 : True := trivial
      go_wp2_with (first
        | (refine wpList_load_row rfl 24 _ rfl w.heap.size rfl 24 G (0, 0) _ hbx.out Try.underlying24 rfl (by rw [HS.out]; kernel_rfl) ?_)
        | (go_at_call 23; refine (next_any A O T n c j co ct its id (tT g its) j G g _ hA2 hO2 hT2 h32 (by omega) hG hlt HGAP.out HITS.out (fun k hk => by show k < n; omega) (fun k hk => by have := BD.out k (by omega); omega)).mono ?_
           rintro e w2 ⟨rfl, hb2⟩
           rw [← tT_eq]
           have hvo2 := own_below hvo hb2 (Nat.le_refl _)
           have hvt2 := own_below hvt hb2 (Nat.le_refl _)
           have hz2 : wr.heap.size ≤ w2.heap.size := hb2.size)
        | (at_builtin; have _t := tok1
           go_loud (refine wpList_append_int w2 (tT g its j) rfl (.tmp 21) (.tmp 28) 25 rfl (w.heap.size + 1) 3 i0 Try.underlying25 J0 J1 J2 J3 (.slice T j ct) j _ rfl hvt2 rfl (by omega) (by omega) ?_)
           intro g3 cap3 w3 hvt3 hg3 hat3 hlt3
           go_loud (have hvo3 := own_app hvt2 hvo2 hap.symm hg3)
           go_loud (have hap3 : ApartV (.slice (some ⟨g3, 0, none⟩) (j + 1) cap3) (.slice O j co) := apart_app hap.symm hvo2 hat3)
           go_loud (have hz3 : w2.heap.size + 1 ≤ w3.heap.size := by have := hg3.size; simpa using this)
           clear tok1)
        | (at_builtin; have _t := tok2
           refine wpList_append_int w3 (j : Int) rfl (.tmp 30) (.tmp 32) 25 rfl (w.heap.size + 1) 3 i0 Try.underlying25 J0 J1 J2 J3 (.slice O j co) j _ rfl hvo3 rfl (by omega) (by omega) ?_
           intro g4 cap4 w4 hvo4 hg4 hat4 hlt4
           go_loud (have hvt4 := own_app hvo3 hvt3 hap3.symm hg4)
           go_loud (have hap4 : ApartV (.slice (some ⟨g4, 0, none⟩) (j + 1) cap4) (.slice (some ⟨g3, 0, none⟩) (j + 1) cap3) := apart_app hap3.symm hvt3 hat4)
           clear tok2))
      have hbx2 : w2.heap[w.heap.size]? = some (.cells G 24 (0, 0)) := (hb2.block _ (by omega)).trans hbx.out
      have hbx3 := heap_app hvt2 (by omega) (by omega) hbx2 hg3
      have hbx4 := heap_app hvo3 (by omega) (by omega) hbx3 hg4
      have hbel2 := hbel.trans (hb2.mono hbel.size)
      have hbel3 := below_app hbel2 hbel2.size hvt2 (by omega) hg3
      have hbel4 := below_app hbel3 hbel3.size hvo3 (by omega) hg4
      go_roundw
      case rel => exact ⟨j + 1, cap4, cap3, _, _, by omega, by go_num, rfl, rfl, by rw [range_snoc (fun i : Nat => (i : Int))] at hvo4; exact hvo4, by rw [range_snoc] at hvt4; exact hvt4, hap4, hbx4, by have := hbel4.size; have := hg4.size; simp at this; show w.heap.size + 1 ≤ _; omega, hbel4⟩
      case measure => simp [intOf]; omega
    · have e : j = n := by omega
      subst e
      go_wp2
      go_ret2
      exact ⟨_, rfl, own_mono hvt (by omega), hbel⟩
end Go.Proofs.Ytmdfdjgeaemicaa
