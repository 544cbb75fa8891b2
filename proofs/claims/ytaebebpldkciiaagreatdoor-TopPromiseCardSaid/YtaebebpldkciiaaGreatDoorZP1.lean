/- Package approach: next, Times, Late where nobody is late. -/
import Derived.Test.YtaebebpldkciiaaGreatDoorG12
import Derived.Test.YtaebebpldkciiaaGreatDoorG05
import Derived.BigQuiet
import Derived.Deep.QuietTactic
import Derived.IntWalk
namespace Go.Proofs.YtaebebpldkciiaaGreatDoor
open Go.RowKit
def nextT (g : Nat → Int) (wk : Nat → Int) (od : Nat → Nat) (ts : Nat → Int) (r w : Int) : Nat → Int
 | 0 => r
 | k + 1 => max (nextT g wk od ts r w k) (ts k + g ((wk (od k)).toNat * 4 + w.toNat))
theorem nextT_bd {g : Nat → Int} {wk : Nat → Int} {od : Nat → Nat} {ts : Nat → Int} {r w : Int} {m : Nat} {T : Int} (hT : 0 ≤ r ∧ r ≤ T + 1000) (hw : 0 ≤ w ∧ w ≤ 3) (hg : ∀ i, i < 16 → gapOk (g i))
  (hwk : ∀ k, k < m → 0 ≤ wk (od k) ∧ wk (od k) ≤ 3) (hts : ∀ k, k < m → 0 ≤ ts k ∧ ts k ≤ T) : ∀ k, k ≤ m → 0 ≤ nextT g wk od ts r w k ∧ nextT g wk od ts r w k ≤ T + 1000
 | 0, _ => hT
 | k + 1, hk => by
  have ih := nextT_bd hT hw hg hwk hts k (by omega)
  have h1 := hwk k (by omega)
  have h2 := hts k (by omega)
  have h3 := hg ((wk (od k)).toNat * 4 + w.toNat) (by omega)
  unfold gapOk at h3
  simp only [nextT]
  omega
set_option maxRecDepth 100000 in
set_option maxHeartbeats 1000000 in
theorem next_any (A O T : Option Addr) (n c m co ct : Nat) (its : Nat → It) (od : Nat → Nat) (ts : Nat → Int) (i : Nat) (G : Array Value) (g : Nat → Int) (w : World)
  (hA : Sl w w.heap.size 4 A n (fun i => (its i).row)) (hO : Sl w w.heap.size 1 O m (fun k => [.int .i64 (od k : Int)])) (hT : Sl w w.heap.size 1 T m (fun k => [.int .i64 (ts k)]))
  (hn : n ≤ 32) (hm : m ≤ 32) (hG : Gaps G g) (hi : i < n) (hg : ∀ i, i < 16 → gapOk (g i)) (hits : ∀ i, i < n → (its i).ok) (hod : ∀ k, k < m → od k < n) (hts : ∀ k, k < m → 0 ≤ ts k ∧ ts k ≤ 1000000000) :
  Calls Tryz.prog 56 #[.slice A n c, .slice O m co, .slice T m ct, .int .i64 (i : Int), .agg G] w fun e w' =>
   e = .returned (.int .i64 (nextT g (fun k => (its k).wk) od ts (its i).rd (its i).wk m)) ∧ Below w.heap.size w w' := by
 obtain ⟨b, off, rfl, hb, hrow⟩ := hA (by omega)
 have hri := hrow i hi
 have hoki := hits i hi
 unfold It.ok at hoki
 have bd : ∀ k, k ≤ m → 0 ≤ nextT g (fun k => (its k).wk) od ts (its i).rd (its i).wk k ∧ nextT g (fun k => (its k).wk) od ts (its i).rd (its i).wk k ≤ 1000000000 + 1000 :=
  nextT_bd (wk := fun k => (its k).wk) (by omega) (by omega) hg (fun k hk => by have := hits _ (hod k hk); unfold It.ok at this; omega) hts
 have BD := Lib.hid bd
 clear bd
 have HG := Lib.hid hg
 have HT := Lib.hid hits
 have HD := Lib.hid hod
 have HTS := Lib.hid hts
 have HR := Lib.hid hrow
 have HGG := Lib.hid hG
 clear hg hits hod hts hrow hG
 have c2 : w.cell? ⟨b, off + i * 4 + 2, none⟩ = some (.int .i64 (its i).rd) := hri 2 _ rfl
 have c1 : w.cell? ⟨b, off + i * 4 + 1, none⟩ = some (.int .i64 (its i).wk) := hri 1 _ rfl
 have hi1 : (i : Int) < (n : Int) := by omega
 have hi0 : (0 : Int) ≤ (i : Int) := by omega
 go_enter Tryz.func56, Tryz.ntmps56
 go_wp2
 go_loopw [11, 21] (fun t k wr => ∃ j : Nat, j ≤ m ∧ k = .int .i64 j ∧ t = .int .i64 (nextT g (fun k => (its k).wk) od ts (its i).rd (its i).wk j) ∧
   Hid (wr.heap[w.heap.size]? = some (.cells G 25 (0, 0))) ∧ Below w.heap.size w wr) (fun _ k _ => m - (intOf k).toNat)
 case atStart => exact ⟨0, by omega, rfl, rfl, heap_alloc_new w _, (Below.refl _ _).alloc (Nat.le_refl _) _⟩
 case round =>
  obtain ⟨j, hj, rfl, rfl, hbx, hbel⟩ := hrel
  have hbj := BD.out j hj
  by_cases hlt : j < m
  ·obtain ⟨bo, oo, rfl, hbo, hro⟩ := hO.one (by omega)
   obtain ⟨bt, ot, rfl, hbt, hrt⟩ := hT.one (by omega)
   have hoj := HD.out j hlt
   have hokj := HT.out (od j) hoj
   have htj := HTS.out j hlt
   unfold It.ok at hokj
   have o1 : wr.cell? ⟨bo, oo + j, none⟩ = some (.int .i64 (od j : Int)) := (hbel.cell (p := ⟨bo, oo + j, none⟩) hbo).trans (hro j hlt)
   have t1 : wr.cell? ⟨bt, ot + j, none⟩ = some (.int .i64 (ts j)) := (hbel.cell (p := ⟨bt, ot + j, none⟩) hbt).trans (hrt j hlt)
   have m1 : wr.cell? ⟨b, off + od j * 4 + 1, none⟩ = some (.int .i64 (its (od j)).wk) := (hbel.cell (p := ⟨b, off + od j * 4 + 1, none⟩) hb).trans (HR.out (od j) hoj 1 _ rfl)
   have i1 : wr.cell? ⟨b, off + i * 4 + 1, none⟩ = some (.int .i64 (its i).wk) := (hbel.cell (p := ⟨b, off + i * 4 + 1, none⟩) hb).trans c1
   have g1 : wr.cell? ⟨w.heap.size, (its (od j)).wk.toNat * 4 + (its i).wk.toNat, none⟩ = some (.int .i64 (g ((its (od j)).wk.toNat * 4 + (its i).wk.toNat))) := by
    rw [cell_of_row wr _ _ _ _ _ hbx.out]; exact HGG.out.2 _ (by omega)
   have hgj := HG.out ((its (od j)).wk.toNat * 4 + (its i).wk.toNat) (by omega)
   unfold gapOk at hgj
   have ho1 : (od j : Int) < (n : Int) := by omega
   have ho0 : (0 : Int) ≤ (od j : Int) := by omega
   have hw1 : (IntKind.i64).wrap (ts j + g ((its (od j)).wk.toNat * 4 + (its i).wk.toNat)) = ts j + g ((its (od j)).wk.toNat * 4 + (its i).wk.toNat) := IntWalk.i64_in _ (by omega)
   clear c1 c2 hri
   go_wp2
   go_quiet (fail)
   go_wp2
   go_roundw
   case rel => exact ⟨j + 1, by omega, by go_num, rfl, hbx, below_drewN hbel _⟩
   case measure => simp [intOf]; omega
  ·have e : j = m := by omega
   subst e
   go_wp2
   go_ret
   exact ⟨rfl, hbel⟩
def timesL (g : Nat → Int) (its : Nat → It) : Nat → List Int
 | 0 => []
 | k + 1 => timesL g its k ++ [nextT g (fun k => (its k).wk) id (fun j => (timesL g its k).getD j 0) (its k).rd (its k).wk k]
def tT (g : Nat → Int) (its : Nat → It) (i : Nat) : Int := (timesL g its (i + 1)).getD i 0
theorem timesL_len {g : Nat → Int} {its : Nat → It} : ∀ k, (timesL g its k).length = k
 | 0 => rfl
 | k + 1 => by simp [timesL, timesL_len k]
theorem timesL_get {g : Nat → Int} {its : Nat → It} : ∀ k j, j < k → (timesL g its k).getD j 0 = tT g its j
 | 0, j, h => by omega
 | k + 1, j, h => by
  by_cases e : j = k
  ·subst e; rfl
  ·have hl := timesL_len (g := g) (its := its) k
   rw [← timesL_get k j (by omega)]
   simp only [timesL, List.getD_eq_getElem?_getD]
   rw [List.getElem?_append_left (by omega)]
theorem nextT_congr {g : Nat → Int} {wk : Nat → Int} {od od' : Nat → Nat} {ts ts' : Nat → Int} {r w : Int} : ∀ k, (∀ j, j < k → od j = od' j ∧ ts j = ts' j) → nextT g wk od ts r w k = nextT g wk od' ts' r w k
 | 0, _ => rfl
 | k + 1, h => by
  simp only [nextT]
  rw [nextT_congr k (fun j hj => h j (by omega)), (h k (by omega)).1, (h k (by omega)).2]
theorem tT_eq {g : Nat → Int} {its : Nat → It} (k : Nat) : tT g its k = nextT g (fun k => (its k).wk) id (tT g its) (its k).rd (its k).wk k := by
 have hl := timesL_len (g := g) (its := its) k
 unfold tT
 simp only [timesL, List.getD_eq_getElem?_getD]
 rw [List.getElem?_append_right (by omega), hl, Nat.sub_self]
 simp only [List.getElem?_cons_zero, Option.getD_some]
 refine nextT_congr k (fun j hj => ⟨rfl, ?_⟩)
 have := timesL_get (g := g) (its := its) k j hj
 rw [List.getD_eq_getElem?_getD] at this
 rw [this]; rfl
theorem tT_bd {g : Nat → Int} {its : Nat → It} {n : Nat} (hg : ∀ i, i < 16 → gapOk (g i)) (hi : ∀ i, i < n → (its i).ok) : ∀ k, k < n → 0 ≤ tT g its k ∧ tT g its k ≤ 200000 + 1000 * k := by
 intro k
 induction k using Nat.strongRecOn with
 | _ k ih =>
  intro hk
  have hok := hi k hk
  unfold It.ok at hok
  rw [tT_eq]
  rcases Nat.eq_zero_or_pos k with rfl | hp
  ·simp only [nextT]; omega
  ·have := nextT_bd (g := g) (wk := fun k => (its k).wk) (od := id) (ts := tT g its) (r := (its k).rd) (w := (its k).wk) (m := k) (T := 200000 + 1000 * (k - 1 : Nat)) (by omega) (by omega) hg
    (fun j hj => by have := hi j (by omega); unfold It.ok at this; exact ⟨this.1, this.2.1⟩) (fun j hj => by have := ih j hj (by omega); omega) k (Nat.le_refl _)
   omega
theorem int_infoA : (Tryz.prog.info? 3).map (fun i => (i.zero, i.size, i.bytes)) = some (some (.int .i64 0), 1, 8) := by kernel_rfl
set_option maxRecDepth 100000 in
set_option maxHeartbeats 2000000 in
theorem Times_ok (A : Option Addr) (n c : Nat) (its : Nat → It) (G : Array Value) (g : Nat → Int) (w : World) (hA : Sl w w.heap.size 4 A n (fun i => (its i).row)) (hn : n ≤ maxLen) (hG : Gaps G g)
  (hc : checkCode n its g = 0) :
  Calls Tryz.prog 25 #[.slice A n c, .agg G] w fun e w' => ∃ v, e = .returned (.tuple #[v, .int .i64 0]) ∧ w'.ownsRow w.heap.size 3 1 v n (intsV ((List.range n).map (tT g its))) ∧ Below w.heap.size w w' := by
 obtain ⟨h32, hgap, hits⟩ := checkCode_inv hc
 have HS := Lib.hid hG.1
 have HC := Lib.hid hc
 have HGAP := Lib.hid hgap
 have HITS := Lib.hid hits
 have BD := Lib.hid (tT_bd hgap hits)
 clear hc hgap hits
 have hb0 : Below w.heap.size w (w.alloc (.cells G 25)) := (Below.refl _ _).alloc (Nat.le_refl _) _
 have hA1 := (hA.below hb0).more hb0.size
 obtain ⟨i0, J0, J1, J2, J3⟩ := info_parts int_infoA
 go_enter Tryz.func25, Tryz.ntmps25
 go_wp2_with (first
  | (refine wpList_load_row rfl 25 _ rfl w.heap.size rfl 25 G (0, 0) _ (heap_alloc_new w _) Tryz.underlying25 rfl (by rw [HS.out]; kernel_rfl) ?_)
  | (go_at_call 43; refine (ACheck_any A n c its G g _ hA1 hn hG).mono ?_; rintro e w1 ⟨rfl, hb1⟩; rw [HC.out]))
 have hbx1 : Hid (w1.heap[w.heap.size]? = some (.cells G 25 (0, 0))) := (hb1.block _ (by simp)).trans (heap_alloc_new w _)
 have hbel1 : Below w.heap.size w w1 := hb0.trans (hb1.mono hb0.size)
 go_loopw [7, 8, 18] (fun vo vt k wr => ∃ (j co ct : Nat) (O T : Option Addr), j ≤ n ∧ k = .int .i64 j ∧ vo = .slice O j co ∧ vt = .slice T j ct ∧
   wr.ownsRow (w.heap.size + 1) 3 1 vo j (intsV ((List.range j).map fun i : Nat => (i : Int))) ∧ wr.ownsRow (w.heap.size + 1) 3 1 vt j (intsV ((List.range j).map (tT g its))) ∧ ApartV vo vt ∧
   Hid (wr.heap[w.heap.size]? = some (.cells G 25 (0, 0))) ∧ Hid (w.heap.size + 1 ≤ wr.heap.size) ∧ Below w.heap.size w wr) (fun _ _ k _ => n - (intOf k).toNat)
 case atStart => exact ⟨0, 0, 0, none, none, by omega, rfl, rfl, rfl, World.ownsRow_nil _ _ _ _, World.ownsRow_nil _ _ _ _, apart_nil, hbx1, by have := hb1.size; simp at this; exact this, hbel1⟩
 case round =>
  obtain ⟨j, co, ct, O, T, hj, rfl, rfl, rfl, hvo, hvt, hap, hbx, hsz, hbel⟩ := hrel
  by_cases hlt : j < n
  ·have hA2 := (hA.below hbel).more hbel.size
   have hO2 : Sl wr wr.heap.size 1 O j (fun k => [.int .i64 ((id k : Nat) : Int)]) := Sl_ints hvo
   have hT2 := Sl_ints hvt
   have hsz0 := hsz.out
   have tok1 : True := trivial
   have tok2 : True := trivial
   go_wp2_with (first
    | (refine wpList_load_row rfl 25 _ rfl w.heap.size rfl 25 G (0, 0) _ hbx.out Tryz.underlying25 rfl (by rw [HS.out]; kernel_rfl) ?_)
    | (go_at_call 56; refine (next_any A O T n c j co ct its id (tT g its) j G g _ hA2 hO2 hT2 h32 (by omega) hG hlt HGAP.out HITS.out (fun k hk => by show k < n; omega) (fun k hk => by have := BD.out k (by omega); omega)).mono ?_
       rintro e w2 ⟨rfl, hb2⟩
       rw [← tT_eq]
       have hvo2 := own_below hvo hb2 (Nat.le_refl _)
       have hvt2 := own_below hvt hb2 (Nat.le_refl _)
       have hz2 : wr.heap.size ≤ w2.heap.size := hb2.size)
    | (at_builtin; have _t := tok1
       go_loud (refine wpList_append_int w2 (tT g its j) rfl (.tmp 21) (.tmp 28) 29 rfl (w.heap.size + 1) 3 i0 Tryz.underlying29 J0 J1 J2 J3 (.slice T j ct) j _ rfl hvt2 rfl (by omega) (by omega) ?_)
       intro g3 cap3 w3 hvt3 hg3 hat3 hlt3
       go_loud (have hvo3 := own_app hvt2 hvo2 hap.symm hg3)
       go_loud (have hap3 : ApartV (.slice (some ⟨g3, 0, none⟩) (j + 1) cap3) (.slice O j co) := apart_app hap.symm hvo2 hat3)
       go_loud (have hz3 : w2.heap.size + 1 ≤ w3.heap.size := by have := hg3.size; simpa using this)
       clear tok1)
    | (at_builtin; have _t := tok2
       refine wpList_append_int w3 (j : Int) rfl (.tmp 30) (.tmp 32) 29 rfl (w.heap.size + 1) 3 i0 Tryz.underlying29 J0 J1 J2 J3 (.slice O j co) j _ rfl hvo3 rfl (by omega) (by omega) ?_
       intro g4 cap4 w4 hvo4 hg4 hat4 hlt4
       go_loud (have hvt4 := own_app hvo3 hvt3 hap3.symm hg4)
       go_loud (have hap4 : ApartV (.slice (some ⟨g4, 0, none⟩) (j + 1) cap4) (.slice (some ⟨g3, 0, none⟩) (j + 1) cap3) := apart_app hap3.symm hvt3 hat4)
       clear tok2))
   have hbx2 : w2.heap[w.heap.size]? = some (.cells G 25 (0, 0)) := (hb2.block _ (by omega)).trans hbx.out
   have hbx3 := heap_app hvt2 (by omega) (by omega) hbx2 hg3
   have hbx4 := heap_app hvo3 (by omega) (by omega) hbx3 hg4
   have hbel2 := hbel.trans (hb2.mono hbel.size)
   have hbel3 := below_app hbel2 hbel2.size hvt2 (by omega) hg3
   have hbel4 := below_app hbel3 hbel3.size hvo3 (by omega) hg4
   go_roundw
   case rel => exact ⟨j + 1, cap4, cap3, _, _, by omega, by go_num, rfl, rfl, by rw [range_snoc (fun i : Nat => (i : Int))] at hvo4; exact hvo4, by rw [range_snoc] at hvt4; exact hvt4, hap4, hbx4, by have := hbel4.size; have := hg4.size; simp at this; show w.heap.size + 1 ≤ _; omega, hbel4⟩
   case measure => simp [intOf]; omega
  ·have e : j = n := by omega
   subst e
   go_wp2
   go_ret2
   exact ⟨_, rfl, own_mono hvt (by omega), hbel⟩
set_option maxRecDepth 100000 in
set_option maxHeartbeats 2000000 in
theorem Late_ok (A : Option Addr) (n c : Nat) (its : Nat → It) (G : Array Value) (g : Nat → Int) (w : World) (hA : Sl w w.heap.size 4 A n (fun i => (its i).row)) (hn : n ≤ maxLen) (hG : Gaps G g) (hc : checkCode n its g = 0)
  (hno : ∀ i, i < n → tT g its i ≤ (its i).sl) :
  Calls Tryz.prog 26 #[.slice A n c, .agg G] w fun e w' => e = .returned (.tuple #[.slice none 0 0, .int .i64 0]) ∧ Below w.heap.size w w' := by
 have HS := Lib.hid hG.1
 have HC := Lib.hid hc
 have HN := Lib.hid hno
 have hb0 : Below w.heap.size w (w.alloc (.cells G 25)) := (Below.refl _ _).alloc (Nat.le_refl _) _
 have hA1 := (hA.below hb0).more hb0.size
 clear hc hno
 go_enter Tryz.func26, Tryz.ntmps26
 go_wp2_with (first
  | (refine wpList_load_row rfl 25 _ rfl w.heap.size rfl 25 G (0, 0) _ (heap_alloc_new w _) Tryz.underlying25 rfl (by rw [HS.out]; kernel_rfl) ?_)
  | (go_at_call 25; refine (Times_ok A n c its G g _ hA1 hn hG HC.out).mono ?_; rintro e w1 ⟨v, rfl, hT, hb1⟩; obtain ⟨T, ct, rfl⟩ := own_shape hT))
 have HB1 := Lib.hid (hb0.trans (hb1.mono hb0.size))
 have HT := Lib.hid (Sl_ints hT)
 clear hb1 hT
 go_loopw [8, 22] (fun o k wr => ∃ j : Nat, j ≤ n ∧ o = .slice none 0 0 ∧ k = .int .i64 j ∧ Hid (Below w1.heap.size w1 wr)) (fun _ k _ => n - (intOf k).toNat)
 case atStart => exact ⟨0, by omega, rfl, rfl, Below.refl _ _⟩
 case round =>
  obtain ⟨j, hj, rfl, rfl, HBr⟩ := hrel
  by_cases hlt : j < n
  ·obtain ⟨bt, ot, rfl, hbt, hrt⟩ := HT.out.one (by omega)
   obtain ⟨b, off, rfl, hb, hrow⟩ := hA (by omega)
   have hr := hrow j hlt
   have hbr := HB1.out.trans (HBr.out.mono HB1.out.size)
   have hj0 : (0 : Int) ≤ (j : Int) := by omega
   have hjn : (j : Int) < (n : Int) := by omega
   have c0 : wr.cell? ⟨b, off + j * 4, none⟩ = some (.string (its j).nm) := (hbr.cell (p := ⟨b, off + j * 4, none⟩) hb).trans (hr 0 _ rfl)
   have c1 : wr.cell? ⟨b, off + j * 4 + 1, none⟩ = some (.int .i64 (its j).wk) := (hbr.cell (p := ⟨b, off + j * 4 + 1, none⟩) hb).trans (hr 1 _ rfl)
   have c2 : wr.cell? ⟨b, off + j * 4 + 2, none⟩ = some (.int .i64 (its j).rd) := (hbr.cell (p := ⟨b, off + j * 4 + 2, none⟩) hb).trans (hr 2 _ rfl)
   have c3 : wr.cell? ⟨b, off + j * 4 + 3, none⟩ = some (.int .i64 (its j).sl) := (hbr.cell (p := ⟨b, off + j * 4 + 3, none⟩) hb).trans (hr 3 _ rfl)
   have t1 : wr.cell? ⟨bt, ot + j, none⟩ = some (.int .i64 (tT g its j)) := (HBr.out.cell (p := ⟨bt, ot + j, none⟩) hbt).trans (hrt j hlt)
   have hbw : b < wr.heap.size := Nat.lt_of_lt_of_le hb hbr.size
   have hbw2 : b ≠ wr.heap.size := by omega
   have htw : bt < wr.heap.size := Nat.lt_of_lt_of_le hbt HBr.out.size
   have htw2 : bt ≠ wr.heap.size := by omega
   have hle := HN.out j hlt
   have hwr : IntKind.i64.wrap ((j : Int) + 1) = (j : Int) + 1 := IntWalk.i64_in _ (by unfold maxLen at hn; omega)
   have hnl : decide (tT g its j > (its j).sl) = false := by simp; omega
   have hnl2 : ¬ (its j).sl < tT g its j := by omega
   clear hr hrow hbr
   go_wp2_with fail
   go_quiet (fail)
   go_wp2_with fail
   go_roundw
   case rel => exact ⟨j + 1, by omega, rfl, by go_num, below_drewN (HBr.out.alloc HBr.out.size _) _⟩
   case measure => simp [intOf]; omega
  ·obtain rfl : j = n := by omega
   go_wp2
   go_ret2
   exact ⟨rfl, HB1.out.trans (HBr.out.mono HB1.out.size)⟩
end Go.Proofs.YtaebebpldkciiaaGreatDoor
