/- Contracts and plain words, part 9: texts InsFl, DelFl, V3, BsfFl, U3, V4. -/
import Derived.Test.YtaebebpldkciiaaGreatDoorQG06
import Derived.Test.YtaebebpldkciiaaGreatDoorQG01
import Derived.Test.YtaebebpldkciiaaGreatDoorQG04
import Derived.Test.YtaebebpldkciiaaGreatDoorQG08
import Derived.Test.YtaebebpldkciiaaGreatDoorQG05
namespace Go.Proofs.YtaebebpldkciiaaGreatDoor
section
open Go.RowKit
theorem InsertFl_info : (Tryz.prog.info? 46).map (fun i => (i.zero, i.size, i.bytes)) = some (some (.agg #[.string ByteArray.empty, .int .i64 0, .int .i64 0, .bool false, .slice none 0 0, .slice none 0 0, .int .i64 0, .int .i64 0]), 8, 104) := by kernel_rfl
def InsertFlP (base n c : Nat) (A : Option Addr) (ys : List Value) (w : World) (e : Ending) (w' : World) : Prop :=
 ∃ g' c', e = .returned (.slice (some ⟨g', 0, none⟩) (n + 1) c') ∧ w'.ownsRow base 46 8 (.slice (some ⟨g', 0, none⟩) (n + 1) c') (n + 1) ys ∧ w.grownBy w' (Value.slice A n c).ownBlock ∧ ((Value.slice A n c).ownBlock = some g' ∨ g' = w.heap.size) ∧ g' < w'.heap.size
set_option maxRecDepth 100000 in
set_option maxHeartbeats 4000000 in
theorem InsertFl_end (base n c vb : Nat) (A : Option Addr) (xs x : List Value) (w : World) (hown : w.ownsRow base 46 8 (.slice A n c) n xs) (hx : x.length = 8) (h1x : ∀ u ∈ x, u.oneCell' = true)
  (hvb : w.heap[vb]? = some (.cells x.toArray 46 (0, 0))) (hn : n + 1 ≤ 1000000) (hbase : base ≤ w.heap.size) (hnc : n ≤ c ∧ c ≤ maxLen) (hnil : A = none → n = 0 ∧ c = 0) :
  Calls Tryz.prog 108 #[.slice A n c, .int .i64 (n : Int), .slice (some ⟨vb, 0, none⟩) 1 1] w (InsertFlP base n c A (xs ++ x) w) := by
 obtain ⟨i0, J0, J1, J2, J3⟩ := info_parts InsertFl_info
 obtain ⟨hnc, hcm⟩ := hnc
 unfold maxLen at hcm
 have hnews : ∀ j u, x[j]? = some u → w.cell? ((⟨vb, 0, none⟩ : Addr).add j) = some u := fun j u hu => by
  rw [Addr.add_mid, Nat.zero_add, cell_of_row w vb j _ _ _ hvb]
  simpa using hu
 have HN := Lib.hid hnews
 have HO := Lib.hid hown
 have H1 := Lib.hid h1x
 clear hnews hown h1x hvb
 cases A with
 | none =>
  obtain ⟨rfl, rfl⟩ := hnil rfl
  have t := (HO.out).1
  go_enter Tryz.func108, Tryz.ntmps108
  go_wp2_with (at_builtin; go_loud (refine wpList_append_lies _ rfl (.tmp 23) (.tmp 24) 40 rfl base 46 i0 _ 8 104 Tryz.underlying40 J0 J1 J2 J3 rfl (by decide) (.slice none 0 0) 0 xs rfl HO.out ⟨vb, 0, none⟩ 1 1 x rfl (by omega) HN.out H1.out (by decide) (by simp only [maxLen]; omega) (by omega) hbase w.heap.size rfl ?_; intro g' c' w' h2 h3 h4 h5))
  go_ret
  exact ⟨g', c', rfl, h2, h3, h4, h5⟩
 | some ad =>
  clear hnil
  by_cases hcn : c = n
  ·subst hcn
   go_enter Tryz.func108, Tryz.ntmps108
   go_wp2_with (at_builtin; go_loud (refine wpList_append_lies _ rfl (.tmp 23) (.tmp 24) 40 rfl base 46 i0 _ 8 104 Tryz.underlying40 J0 J1 J2 J3 rfl (by decide) (.slice (some ad) c c) c xs rfl HO.out ⟨vb, 0, none⟩ 1 1 x rfl (by omega) HN.out H1.out (by decide) (by simp only [maxLen]; omega) (by omega) hbase w.heap.size rfl ?_; intro g' c' w' h2 h3 h4 h5))
   go_ret
   exact ⟨g', c', rfl, h2, h3, h4, h5⟩
  ·go_enter Tryz.func108, Tryz.ntmps108
   go_wp2_with (at_builtin; go_loud (refine wpList_append_lies _ rfl (.tmp 23) (.tmp 24) 40 rfl base 46 i0 _ 8 104 Tryz.underlying40 J0 J1 J2 J3 rfl (by decide) (.slice (some ad) n c) n xs rfl HO.out ⟨vb, 0, none⟩ 1 1 x rfl (by omega) HN.out H1.out (by decide) (by simp only [maxLen]; omega) (by omega) hbase w.heap.size rfl ?_; intro g' c' w' h2 h3 h4 h5))
   go_ret
   exact ⟨g', c', rfl, h2, h3, h4, h5⟩
set_option maxRecDepth 100000 in
set_option maxHeartbeats 4000000 in
theorem InsertFl_shift (base g n c i vb : Nat) (xs x : List Value) (w : World) (hown : w.ownsRow base 46 8 (.slice (some ⟨g, 0, none⟩) n c) n xs) (h1 : ∀ u ∈ xs, u.oneCell' = true) (hx : x.length = 8) (h1x : ∀ u ∈ x, u.oneCell' = true)
  (hvb : w.heap[vb]? = some (.cells x.toArray 46 (0, 0))) (hne : vb ≠ g) (hi : i < n) (hn : n + 1 ≤ 1000000) (hroom : n + 1 ≤ c) :
  Calls Tryz.prog 108 #[.slice (some ⟨g, 0, none⟩) n c, .int .i64 (i : Int), .slice (some ⟨vb, 0, none⟩) 1 1] w (InsertFlP base n c (some ⟨g, 0, none⟩) (xs.take (i * 8) ++ x ++ xs.drop (i * 8)) w) := by
 obtain ⟨i0, J0, J1, J2, J3⟩ := info_parts InsertFl_info
 obtain ⟨cur, hg, hbg, _, hcm, hcs, _⟩ := own_cur hown
 have hlt := (hown.lt g rfl).2
 unfold maxLen at hcm
 have hnews : ∀ j u, x[j]? = some u → w.cell? ((⟨vb, 0, none⟩ : Addr).add j) = some u := fun j u hu => by
  rw [Addr.add_mid, Nat.zero_add, cell_of_row w vb j _ _ _ hvb]
  simpa using hu
 have hxl : xs.length = n * 8 := hown.1
 have hdl : (xs.drop (i * 8)).length = (n - i) * 8 := drop_len hxl (by omega)
 have hov : ∀ lb cb, (callFunc 159 #[.slice (some ⟨vb, 0, none⟩) 1 1, .slice (some ⟨g, (i + 1) * 8, none⟩) lb cb]).run Tryz.prog w = .ok (.value (.bool false)) w := fun lb cb => by
  rw [run_callFunc_extern Tryz.func159 (by kernel_rfl) (by kernel_rfl) (by kernel_rfl) (e := Extern.SlicesOverlaps.overlaps #[40, 40] #[4]) (by kernel_rfl),
   Lib.run_overlaps_apart w 40 4 46 Tryz.underlying40 8 Tryz.sizeOf46 ⟨vb, 0, none⟩ ⟨g, (i + 1) * 8, none⟩ 1 1 lb cb hne 46 46 x.length cur.size (by simp [World.shape?, hvb]) (by simp [World.shape?, hg]) (by omega) (frozen_of_row w vb 0 _ _ hvb) (frozen_of_row w vb x.length _ _ hvb)]
  rfl
 have u1 := own_up hown i hi hroom
 have g1 := setCells_grown g (xs.drop (i * 8)) ((i + 1) * 8) w
 have hcp1 : ∀ ty dc sc, (Builtin.copy_ #[40, 40] ty #[.slice (some ⟨g, (i + 1) * 8, none⟩) (n - i) dc, .slice (some ⟨g, i * 8, none⟩) (n + 1 - i) sc]).run Tryz.prog w.drew = .ok (.int .i64 ((n - i : Nat) : Int)) (w.drew.setCells g ((i + 1) * 8) (xs.drop (i * 8))) := fun ty dc sc =>
  own_copyK (w := w.drew) hown 40 40 ty i0 (n - i) (i + 1) (n - i) dc ⟨g, i * 8, none⟩ (n + 1 - i) sc _ Tryz.underlying40 J0 J2 (Nat.min_eq_right (by omega)) hdl (fun j v hj => own_tail hown i j v hj) (by omega) (fun v hv => h1 v (List.mem_of_mem_drop hv))
 obtain ⟨W1, hW1⟩ : ∃ W1, W1 = w.drew.setCells g ((i + 1) * 8) (xs.drop (i * 8)) := ⟨_, rfl⟩
 have hW1o : W1.ownsRow base 46 8 (.slice (some ⟨g, 0, none⟩) (n + 1) c) (n + 1) (xs.take ((i + 1) * 8) ++ xs.drop (i * 8)) := by rw [hW1]; exact own_up (w := w.drew) hown i hi hroom
 have hW1g : w.grownBy W1 (some g) := by
  rw [hW1]
  have := setCells_grown g (xs.drop (i * 8)) ((i + 1) * 8) w.drew
  exact ⟨this.os, this.tape, this.output, this.size, this.block⟩
 have hvb1 : W1.heap[vb]? = some (.cells x.toArray 46 (0, 0)) := by
  have hb := (Array.getElem?_eq_some_iff.1 hvb).1
  rw [hW1g.block vb hb (fun e => by injection e with e; omega)]; exact hvb
 have hcp2 : ∀ ty dc, (Builtin.copy_ #[40, 40] ty #[.slice (some ⟨g, i * 8, none⟩) (n + 1 - i) dc, .slice (some ⟨vb, 0, none⟩) 1 1]).run Tryz.prog W1 = .ok (.int .i64 ((1 : Nat) : Int)) (W1.setCells g (i * 8) x) := fun ty dc =>
  own_copyK hW1o 40 40 ty i0 1 i (n + 1 - i) dc ⟨vb, 0, none⟩ 1 1 _ Tryz.underlying40 J0 J2 (Nat.min_eq_left (by omega)) (by omega) (fun j v hj => by
   rw [Addr.add_mid, Nat.zero_add, cell_of_row W1 vb j _ _ _ hvb1]
   simpa using hj) (by omega) h1x
 have hW2 := own_put hW1o i (by omega) hx
 have hys : (xs.take ((i + 1) * 8) ++ xs.drop (i * 8)).take (i * 8) ++ x ++ (xs.take ((i + 1) * 8) ++ xs.drop (i * 8)).drop ((i + 1) * 8) = xs.take (i * 8) ++ x ++ xs.drop (i * 8) := by
  have l1 : (xs.take ((i + 1) * 8)).length = (i + 1) * 8 := by rw [List.length_take, hxl]; omega
  rw [List.take_append_of_le_length (by omega), List.take_take, Nat.min_eq_left (by omega), List.drop_append_of_le_length (by omega), List.drop_of_length_le (by omega), List.nil_append]
 rw [hys] at hW2
 have hW2g := grown_trans hW1g (setCells_grown g x (i * 8) W1)
 have HF : Hid (InsertFlP base n c (some ⟨g, 0, none⟩) (xs.take (i * 8) ++ x ++ xs.drop (i * 8)) w (.returned (.slice (some ⟨g, 0, none⟩) (n + 1) c)) (W1.setCells g (i * 8) x)) :=
  Lib.hid ⟨g, c, rfl, hW2, hW2g, .inl rfl, (hW2.lt g rfl).2⟩
 rw [← hW1] at hcp1
 clear hW2 hW2g hys hW1o hW1g hW1 hvb1 u1 g1 hnews hown h1 h1x hvb hg hdl hxl
 generalize xs.take (i * 8) ++ x ++ xs.drop (i * 8) = ys at *
 generalize xs.drop (i * 8) = zs at *
 have hb4 : ¬ (c = i) := by omega
 have hb5 : ¬ (c = i + 1) := by omega
 have hw1 : IntKind.i64.wrap ((i : Int) + 1) = (i : Int) + 1 := IntWalk.i64_in _ (by omega)
 have htn : ((i : Int) + 1).toNat = i + 1 := by omega
 have hni : n + 1 - (i + 1) = n - i := by omega
 have h0i : (0 : Int) ≤ (i : Int) + 1 := by omega
 have hin : (i : Int) + 1 ≤ (n : Int) + 1 := by omega
 have hin2 : (i : Int) ≤ (n : Int) + 1 := by omega
 go_enter Tryz.func108, Tryz.ntmps108
 go_wp2_with (simp only [hov])
 go_region_law (refine step_copyK rfl _ _ 40 40 rfl _ _ (by simp [Act.eval, Act.put]) (by simp [Act.eval, Act.put]) (hcp1 _ _ _) ?_)
 go_wp2_with (at_builtin; refine wpList_copyK _ rfl _ _ 40 40 rfl _ _ rfl rfl (hcp2 _ _) ?_)
 go_ret
 exact HF.out
set_option maxRecDepth 100000 in
set_option maxHeartbeats 4000000 in
theorem InsertFl_grow (base g n i vb : Nat) (xs x : List Value) (w : World) (hown : w.ownsRow base 46 8 (.slice (some ⟨g, 0, none⟩) n n) n xs) (h1 : ∀ u ∈ xs, u.oneCell' = true) (hx : x.length = 8) (h1x : ∀ u ∈ x, u.oneCell' = true)
  (hvb : w.heap[vb]? = some (.cells x.toArray 46 (0, 0))) (hi : i < n) (hn : n + 1 ≤ 1000000) (hbase : base ≤ w.heap.size) :
  Calls Tryz.prog 108 #[.slice (some ⟨g, 0, none⟩) n n, .int .i64 (i : Int), .slice (some ⟨vb, 0, none⟩) 1 1] w (InsertFlP base n n (some ⟨g, 0, none⟩) (xs.take (i * 8) ++ x ++ xs.drop (i * 8)) w) := by
 obtain ⟨i0, J0, J1, J2, J3⟩ := info_parts InsertFl_info
 have hlt := (hown.lt g rfl).2
 have hvlt := (Array.getElem?_eq_some_iff.1 hvb).1
 have hxl : xs.length = n * 8 := hown.1
 have hdl : (xs.drop (i * 8)).length = (n - i) * 8 := drop_len hxl (by omega)
 have htl : (xs.take (i * 8)).length = i * 8 := by rw [List.length_take, hxl]; omega
 have hold : (Builtin.firstCells i0.size i (.slice (some ⟨g, 0, none⟩) i n)).run Tryz.prog w.drew = .ok (xs.take (i * 8)).toArray w.drew := by
  rw [J2]
  exact run_firstCells_some w.drew 8 i ⟨g, 0, none⟩ i n (xs.take (i * 8)) htl (fun j v hj => by
   rw [List.getElem?_take] at hj
   split at hj
   ·exact hown.cells (g := g) rfl j v hj
   ·cases hj)
 have hik : i + (n + 1 - i) = n + 1 := by omega
 have hkk : (n : Int) + 1 - (i : Int) = ((n + 1 - i : Nat) : Int) := by omega
 obtain ⟨zc, hzc⟩ : ∃ zc : List Value, zc = (Builtin.zeroCells (Value.cells (.agg #[.string ByteArray.empty, .int .i64 0, .int .i64 0, .bool false, .slice none 0 0, .slice none 0 0, .int .i64 0, .int .i64 0])) (n + 1 - i)).toList := ⟨_, rfl⟩
 have hzl : zc.length = (n + 1 - i) * 8 := by rw [hzc]; simp [Builtin.zeroCells, Value.cells]
 obtain ⟨G, hG⟩ : ∃ G, G = grownCap w (n + 1) n 46 := ⟨_, rfl⟩
 have hGn : n + 1 ≤ G := by rw [hG]; exact grownCap_ge w _ _ _
 have hGm : G ≤ maxLen := by rw [hG]; exact grownCap_le_maxLen w _ _ _ (by simp only [maxLen]; omega)
 obtain ⟨W1, hW1⟩ : ∃ W1, W1 = w.drew.alloc (.cells ((xs.take (i * 8)).toArray ++ Builtin.zeroCells (Value.cells (.agg #[.string ByteArray.empty, .int .i64 0, .int .i64 0, .bool false, .slice none 0 0, .slice none 0 0, .int .i64 0, .int .i64 0])) (n + 1 - i) ++ Builtin.zeroCells (Value.cells (.agg #[.string ByteArray.empty, .int .i64 0, .int .i64 0, .bool false, .slice none 0 0, .slice none 0 0, .int .i64 0, .int .i64 0])) (G - (n + 1))) 46) := ⟨_, rfl⟩
 have hrz : ∀ ty, (Builtin.append_ #[40, 3] ty #[.slice (some ⟨g, 0, none⟩) i n, .int .i64 ((n : Int) + 1 - (i : Int))]).run Tryz.prog w = .ok (.slice (some ⟨w.heap.size, 0, none⟩) (n + 1) G) W1 := fun ty => by
  have h := Lib.run_append_grow_zeros w 40 3 ty 46 i0 _ .i64 .i64 Tryz.underlying40 Tryz.underlying3 J0 J1 (some ⟨g, 0, none⟩) i n (xs.take (i * 8)) hold (n + 1 - i) (by omega) (by omega) (by omega) (by omega) (by rw [J3]; omega) (by rw [J3, hik]; exact growslice_fits (by omega) (by omega))
  rw [hik, ← hG, ← hW1] at h
  rw [hkk]
  exact h
 have hy1 : (xs.take (i * 8) ++ zc).length = (n + 1) * 8 := by rw [List.length_append, htl, hzl, ← Nat.add_mul, hik]
 have hW1o : W1.ownsRow base 46 8 (.slice (some ⟨w.heap.size, 0, none⟩) (n + 1) G) (n + 1) (xs.take (i * 8) ++ zc) := by
  rw [hW1]
  refine own_new (w := w.drew) hbase hGn hGm ?_ hy1 ?_
  ·have e1 : i * 8 + (n + 1 - i) * 8 = (n + 1) * 8 := by rw [← Nat.add_mul, hik]
   simp [Builtin.zeroCells, Value.cells, hxl]
   omega
  ·rw [Array.toList_append, Array.toList_append, List.toList_toArray, ← hzc, List.take_append_of_le_length (by rw [hy1]; omega), List.take_of_length_le (by rw [hy1]; omega)]
 have hW1g : w.grownBy W1 (some g) := by
  rw [hW1]
  exact ⟨rfl, rfl, rfl, by simp, fun k hk _ => Below.heap_alloc w.drew _ k hk⟩
 have hvb1 : W1.heap[vb]? = some (.cells x.toArray 46 (0, 0)) := by rw [hW1]; exact (Below.heap_alloc w.drew _ vb hvlt).trans hvb
 have hg1 : W1.heap[g]? = w.heap[g]? := by rw [hW1]; exact Below.heap_alloc w.drew _ g hlt
 have hcp1 : ∀ ty dc, (Builtin.copy_ #[40, 40] ty #[.slice (some ⟨w.heap.size, i * 8, none⟩) (n + 1 - i) dc, .slice (some ⟨vb, 0, none⟩) 1 1]).run Tryz.prog W1 = .ok (.int .i64 ((1 : Nat) : Int)) (W1.setCells w.heap.size (i * 8) x) := fun ty dc =>
  own_copyK hW1o 40 40 ty i0 1 i (n + 1 - i) dc ⟨vb, 0, none⟩ 1 1 _ Tryz.underlying40 J0 J2 (Nat.min_eq_left (by omega)) (by omega) (fun j v hj => by
   rw [Addr.add_mid, Nat.zero_add, cell_of_row W1 vb j _ _ _ hvb1]
   simpa using hj) (by omega) h1x
 have hW2o := own_put hW1o i (by omega) hx
 have hW2g := setCells_grown w.heap.size x (i * 8) W1
 obtain ⟨W2, hW2⟩ : ∃ W2, W2 = W1.setCells w.heap.size (i * 8) x := ⟨_, rfl⟩
 rw [← hW2] at hcp1 hW2o hW2g
 have hg2 : W2.heap[g]? = w.heap[g]? := (hW2g.block g (by have := hW1g.size; omega) (fun e => by injection e with e; omega)).trans hg1
 have hcp2 : ∀ ty dc sc, (Builtin.copy_ #[40, 40] ty #[.slice (some ⟨w.heap.size, (i + 1) * 8, none⟩) (n - i) dc, .slice (some ⟨g, i * 8, none⟩) (n - i) sc]).run Tryz.prog W2.drew = .ok (.int .i64 ((n - i : Nat) : Int)) (W2.drew.setCells w.heap.size ((i + 1) * 8) (xs.drop (i * 8))) := fun ty dc sc =>
  own_copyK (w := W2.drew) hW2o 40 40 ty i0 (n - i) (i + 1) (n - i) dc ⟨g, i * 8, none⟩ (n - i) sc _ Tryz.underlying40 J0 J2 (Nat.min_self _) hdl (fun j v hj => by
   have h := own_tail hown i j v hj
   rw [Addr.add_mid] at h ⊢
   exact (World.cell?_of_block (a := ⟨g, i * 8 + j, none⟩) hg2).trans h) (by omega) (fun v hv => h1 v (List.mem_of_mem_drop hv))
 have hW3o := own_tailput (w := W2.drew) hW2o (i + 1) (by omega) (zs := xs.drop (i * 8)) (by rw [hdl]; omega)
 have hys : ((xs.take (i * 8) ++ zc).take (i * 8) ++ x ++ (xs.take (i * 8) ++ zc).drop ((i + 1) * 8)).take ((i + 1) * 8) ++ xs.drop (i * 8) = xs.take (i * 8) ++ x ++ xs.drop (i * 8) := by
  rw [List.take_append_of_le_length (l₂ := zc) (by omega), List.take_take, Nat.min_self, List.take_append_of_le_length (by rw [List.length_append, htl, hx]; omega), List.take_of_length_le (by rw [List.length_append, htl, hx]; omega)]
 rw [hys] at hW3o
 have hW3g := setCells_grown w.heap.size (xs.drop (i * 8)) ((i + 1) * 8) W2.drew
 have hgr : w.grownBy (W2.drew.setCells w.heap.size ((i + 1) * 8) (xs.drop (i * 8))) (some g) := by
  refine ⟨?_, ?_, ?_, ?_, fun k hk hne => ?_⟩
  ·exact hW3g.os.trans (hW2g.os.trans hW1g.os)
  ·exact hW3g.tape.trans (hW2g.tape.trans hW1g.tape)
  ·exact hW3g.output.trans (hW2g.output.trans hW1g.output)
  ·exact Nat.le_trans hW1g.size (Nat.le_trans hW2g.size hW3g.size)
  ·have a1 : k < W1.heap.size := Nat.lt_of_lt_of_le hk hW1g.size
   have a2 : k < W2.heap.size := Nat.lt_of_lt_of_le a1 hW2g.size
   have a3 : some k ≠ some w.heap.size := fun e => by injection e with e; omega
   exact (hW3g.block k a2 a3).trans ((hW2g.block k a1 a3).trans (hW1g.block k hk hne))
 have HF : Hid (InsertFlP base n n (some ⟨g, 0, none⟩) (xs.take (i * 8) ++ x ++ xs.drop (i * 8)) w (.returned (.slice (some ⟨w.heap.size, 0, none⟩) (n + 1) G)) (W2.drew.setCells w.heap.size ((i + 1) * 8) (xs.drop (i * 8)))) :=
  Lib.hid ⟨w.heap.size, G, rfl, hW3o, hgr, .inr rfl, (hW3o.lt w.heap.size rfl).2⟩
 unfold maxLen at hGm
 clear hW3o hW3g hgr hys hW2o hW2g hg2 hW2 hW1o hW1g hW1 hvb1 hg1 hy1 hG hzl hzc hold hown h1 h1x hvb hdl hxl htl
 generalize xs.take (i * 8) ++ x ++ xs.drop (i * 8) = ys at *
 generalize xs.drop (i * 8) = zs at *
 generalize hNN : w.heap.size = NN at *
 clear hNN
 have hb3 : ¬ (n = i) := by omega
 have hb4 : ¬ (G = i) := by omega
 have hb5 : ¬ (G = i + 1) := by omega
 have hw1 : IntKind.i64.wrap ((i : Int) + 1) = (i : Int) + 1 := IntWalk.i64_in _ (by omega)
 have htn : ((i : Int) + 1).toNat = i + 1 := by omega
 have hni : n + 1 - (i + 1) = n - i := by omega
 have h0i : (0 : Int) ≤ (i : Int) + 1 := by omega
 have hin : (i : Int) + 1 ≤ (n : Int) + 1 := by omega
 have hin1 : (i : Int) ≤ (n : Int) := by omega
 have hin2 : (i : Int) ≤ (n : Int) + 1 := by omega
 clear hkk hik
 go_enter Tryz.func108, Tryz.ntmps108
 go_wp2_with (first
  | (at_builtin; refine wpList_append_runK _ rfl _ _ 40 3 rfl _ _ rfl rfl (hrz _) ?_)
  | (at_builtin; refine wpList_copyK _ rfl _ _ 40 40 rfl _ _ rfl rfl (hcp1 _ _) ?_))
 go_region_law (refine step_copyK rfl _ _ 40 40 rfl _ _ (by simp [Act.eval, Act.put]) (by simp [Act.eval, Act.put]) (hcp2 _ _ _) ?_)
 go_wp2
 go_ret
 exact HF.out
theorem InsertFl_own (base n c i vb : Nat) (A : Option Addr) (xs x : List Value) (w : World) (hown : w.ownsRow base 46 8 (.slice A n c) n xs) (h1 : ∀ u ∈ xs, u.oneCell' = true) (hx : x.length = 8) (h1x : ∀ u ∈ x, u.oneCell' = true)
  (hvb : w.heap[vb]? = some (.cells x.toArray 46 (0, 0))) (hne : (Value.slice A n c).ownBlock ≠ some vb) (hi : i ≤ n) (hn : n + 1 ≤ 1000000) (hbase : base ≤ w.heap.size) :
  Calls Tryz.prog 108 #[.slice A n c, .int .i64 (i : Int), .slice (some ⟨vb, 0, none⟩) 1 1] w (InsertFlP base n c A (xs.take (i * 8) ++ x ++ xs.drop (i * 8)) w) := by
 have hxl : xs.length = n * 8 := hown.1
 by_cases hin : i = n
 ·subst hin
  rw [List.take_of_length_le (by omega), List.drop_of_length_le (by omega), List.append_nil]
  exact InsertFl_end base i c vb A xs x w hown hx h1x hvb hn hbase (own_cap hown) (fun h => own_nil hown h)
 ·obtain ⟨g, cap, hv, _, _⟩ := hown.form (by omega)
  have hA : A = some ⟨g, 0, none⟩ := by injection hv
  subst hA
  have hcap := own_cap hown
  by_cases hr : n + 1 ≤ c
  ·exact InsertFl_shift base g n c i vb xs x w hown h1 hx h1x hvb (fun e => hne (by rw [e]; rfl)) (by omega) hn hr
  ·obtain rfl : c = n := by omega
   exact InsertFl_grow base g c i vb xs x w hown h1 hx h1x hvb (by omega) hn hbase
end
section
open Go.RowKit
theorem DeleteFl_info : (Tryz.prog.info? 46).map (fun i => (i.zero, i.size, i.bytes)) = some (some (.agg #[.string ByteArray.empty, .int .i64 0, .int .i64 0, .bool false, .slice none 0 0, .slice none 0 0, .int .i64 0, .int .i64 0]), 8, 104) := by kernel_rfl
set_option maxRecDepth 100000 in
set_option maxHeartbeats 2000000 in
theorem DeleteFl_own (base g n cap i j : Nat) (xs : List Value) (w : World) (hown : w.ownsRow base 46 8 (.slice (some ⟨g, 0, none⟩) n cap) n xs) (h1 : ∀ u ∈ xs, u.oneCell' = true) (m q : Nat) (hij : i < j) (hj : j + m = n) (hq : i + m = q) :
  Calls Tryz.prog 116 #[.slice (some ⟨g, 0, none⟩) n cap, .int .i64 (i : Int), .int .i64 (j : Int)] w fun e w' => e = .returned (.slice (some ⟨g, 0, none⟩) q cap) ∧
   w'.ownsRow base 46 8 (.slice (some ⟨g, 0, none⟩) q cap) q (xs.take (i * 8) ++ xs.drop (j * 8)) ∧ w.grownBy w' (some g) := by
 obtain ⟨i0, J0, J1, J2, J3⟩ := info_parts DeleteFl_info
 obtain ⟨_, _, _, hnc, hcm, _⟩ := own_cur hown
 unfold maxLen at hcm
 have hic : i ≤ cap := by omega
 have hqn : q ≤ n := by omega
 have hqc : q ≤ cap := by omega
 have hmj : n - j = m := by omega
 have HQ := Lib.hid hq
 have HJ := Lib.hid hj
 have HM := Lib.hid hmj
 have hjn : j ≤ n := by omega
 clear hq hj hmj
 have HO := Lib.hid hown
 have H1 := Lib.hid h1
 clear hown h1
 have l1 : ((i : Int) == (j : Int)) = false := beq_eq_false_iff_ne.2 (by omega)
 go_enter Tryz.func116, Tryz.ntmps116
 go_wp2
 have hj := HJ.out
 have hjc : j ≤ cap := by omega
 obtain ⟨ad, had, hsl⟩ : ∃ ad : Addr, (0 < m → ad = ⟨g, j * 8, none⟩) ∧ Hid (∀ W : World, (Instr.slice 40 (.slice (some ⟨g, 0, none⟩) n cap) (some (.int .i64 (j : Int))) none none).run Tryz.prog W = .ok (.slice (some ad) (m) (cap - j)) W) := by
  refine ⟨if cap = j then ⟨g, 0, none⟩ else ⟨g, j * 8, none⟩, fun h => by rw [if_neg (by omega)], fun W => ?_⟩
  rw [← HM.out]
  clear hj
  by_cases hcj : cap = j
  ·simp only [hcj, if_true]
   go_simp
  ·simp only [hcj, if_false]
   go_simp
 clear hj
 refine Dr.region (Two (fun w' => w' = w.drew) (fun w' => w'.ownsRow base 46 8 (.slice (some ⟨g, 0, none⟩) q cap) q (xs.take (i * 8) ++ xs.drop (j * 8)) ∧ w.grownBy w' (some g))) [6] [(0, 0, false), (0, 0, false), (0, 0, false), (0, 0, false), (0, 0, false), (0, 0, false), (0, 0, true), (1, 1, false)] 1 (by kernel_rfl) (by kernel_rfl) (by kernel_rfl) (by kernel_rfl) (by rfl) ?_
 apply Dr.cons
 ·intro k hk1 hk2 w' hw K hK; go_simp; exact hK _ hw
 ·exact ⟨_, rfl⟩
 apply Dr.cons
 ·intro k hk1 hk2 w' hw K hK; go_simp; exact hK _ hw
 ·exact ⟨_, rfl⟩
 apply Dr.cons
 ·intro k hk1 hk2 w' hw K hK; go_simp; exact hK _ hw
 ·exact ⟨_, rfl⟩
 apply Dr.cons
 ·intro k hk1 hk2 w' hw K hK; go_simp; exact hK _ hw
 ·exact ⟨_, rfl⟩
 apply Dr.cons
 ·intro k hk1 hk2 w' hw K hK; go_simp; exact hK _ hw
 ·exact ⟨_, rfl⟩
 apply Dr.cons
 ·have hsl' := hsl.out
  intro k hk1 hk2 w' hw K hK; go_simp; exact hK _ hw
 ·exact ⟨_, rfl⟩
 apply Dr.cons
 ·intro k hk1 hk2 w' hw K hK; obtain rfl : k = 0 := by omega
  obtain rfl : w' = _ := hw
  refine Dr.run_ (by rfl) ?_
  refine wp_append_splice (.tmp 22) (.tmp 25) 40 rfl i0 Tryz.underlying40 J0 J2 (own_drewN HO.out 1) H1.out i j m (cap - j) (by omega) HJ.out ad had rfl rfl ?_
  intro w1 hown1 hg1
  rw [HQ.out] at hown1 ⊢
  exact hK _ ⟨hown1, ⟨hg1.os, hg1.tape, hg1.output, hg1.size, hg1.block⟩⟩
 ·exact ⟨_, rfl⟩
 apply Dr.cons
 ·intro k hk1 hk2 w' hw K hK; go_simp; exact hK _ hw
 ·exact ⟨_, rfl⟩
 intro w1 hw1
 obtain ⟨hown1, hg1⟩ : w1.ownsRow base 46 8 (.slice (some ⟨g, 0, none⟩) q cap) q (xs.take (i * 8) ++ xs.drop (j * 8)) ∧ w.grownBy w1 (some g) := hw1
 have hq := HQ.out
 have hj := HJ.out
 obtain ⟨ad2, had2, hsl2⟩ : ∃ ad2 : Addr, (0 < n - q → ad2 = ⟨g, q * 8, none⟩) ∧ Hid (∀ W : World, (Instr.slice 40 (.slice (some ⟨g, 0, none⟩) q cap) (some (.int .i64 (q : Int))) (some (.int .i64 (n : Int))) none).run Tryz.prog W = .ok (.slice (some ad2) (n - q) (cap - q)) W) := by
  refine ⟨if cap = q then ⟨g, 0, none⟩ else ⟨g, q * 8, none⟩, fun h => by rw [if_neg (by omega)], fun W => ?_⟩
  clear hj hq
  by_cases hcj : cap = q
  ·simp only [hcj, if_true]
   have hqn2 : n = q := by omega
   simp only [hqn2]
   go_simp
  ·simp only [hcj, if_false]
   go_simp
 clear hj hq
 have hsl3 := hsl2.out
 go_wp2_with (refine wpList_clear_tail rfl (.tmp 31) 40 rfl i0 _ Tryz.underlying40 J0 J1 rfl (by simp [Value.cells, Value.oneCell']) hown1 (n - q) (cap - q) (by omega) ad2 had2 rfl ?_; intro w2 hown2 hg2)
 go_ret
 exact ⟨rfl, hown2, grown_trans hg1 hg2⟩
theorem DeleteFl_at (base g n cap i j : Nat) (x y : Int) (hx : x = i) (hy : y = j) (xs : List Value) (w : World) (hown : w.ownsRow base 46 8 (.slice (some ⟨g, 0, none⟩) n cap) n xs) (h1 : ∀ u ∈ xs, u.oneCell' = true) (m q : Nat) (hij : i < j) (hj : j + m = n) (hq : i + m = q) :
  Calls Tryz.prog 116 #[.slice (some ⟨g, 0, none⟩) n cap, .int .i64 x, .int .i64 y] w fun e w' => e = .returned (.slice (some ⟨g, 0, none⟩) q cap) ∧
   w'.ownsRow base 46 8 (.slice (some ⟨g, 0, none⟩) q cap) q (xs.take (i * 8) ++ xs.drop (j * 8)) ∧ w.grownBy w' (some g) := by
 subst hx hy
 exact DeleteFl_own base g n cap i j xs w hown h1 m q hij hj hq
end
section
open Go.RowKit
structure Off (F : Nat → Prop) (w w' : World) : Prop where
 os : w'.os = w.os
 tape : w'.tape = w.tape
 output : w'.output = w.output
 size : w.heap.size ≤ w'.heap.size
 block : ∀ k, k < w.heap.size → ¬ F k → w'.heap[k]? = w.heap[k]?
def Kept (F : Nat → Prop) (w w' : World) : Prop := w.heap.size ≤ w'.heap.size ∧ ∀ k, k < w.heap.size → F k → w'.heap[k]? = w.heap[k]?
def grow (F : Nat → Prop) (w w' : World) : Nat → Prop := fun b => F b ∨ (w.heap.size ≤ b ∧ b < w'.heap.size)
theorem Off.of_below {F : Nat → Prop} {w w' : World} (h : Below w.heap.size w w') : Off F w w' := ⟨h.os, h.tape, h.output, h.size, fun k hk _ => h.block k hk⟩
theorem Off.refl (F : Nat → Prop) (w : World) : Off F w w := ⟨rfl, rfl, rfl, Nat.le_refl _, fun _ _ _ => rfl⟩
theorem Off.trans {F : Nat → Prop} {a b c : World} (h : Off F a b) (k : Off (grow F a b) b c) : Off F a c :=
 ⟨k.os.trans h.os, k.tape.trans h.tape, k.output.trans h.output, Nat.le_trans h.size k.size, fun i hi hF => (k.block i (Nat.lt_of_lt_of_le hi h.size) (fun hg => by
  rcases hg with hg | hg
  ·exact hF hg
  ·omega)).trans (h.block i hi hF)⟩
theorem Off.mono {F G : Nat → Prop} {a b : World} (h : Off F a b) (hs : ∀ k, k < a.heap.size → F k → G k) : Off G a b := ⟨h.os, h.tape, h.output, h.size, fun k hk hG => h.block k hk (fun hF => hG (hs k hk hF))⟩
theorem Off.trans' {F : Nat → Prop} {a b c : World} (h : Off F a b) (k : Off F b c) : Off F a c := h.trans (k.mono fun _ _ h => .inl h)
theorem Off.grown {F : Nat → Prop} {a b : World} {row : Option Nat} (h : a.grownBy b row) (hr : ∀ k, row = some k → F k) : Off F a b :=
 ⟨h.os, h.tape, h.output, h.size, fun k hk hF => h.block k hk (fun e => hF (hr k e.symm))⟩
theorem Off.setCell {F : Nat → Prop} {a b : World} (h : Off F a b) {p : Addr} (hp : F p.block ∨ a.heap.size ≤ p.block) (u : Value) : Off F a (b.setCell p u) := by
 refine h.trans ⟨rfl, rfl, rfl, by simp [World.setCell], fun k _ hF => Below.heap_setCell _ _ _ _ (fun e => ?_)⟩
 subst e
 rcases hp with hp | hp
 ·exact hF (.inl hp)
 ·by_cases hl : p.block < b.heap.size
  ·exact hF (.inr ⟨hp, hl⟩)
  ·omega
theorem Off.below {F : Nat → Prop} {w w' : World} {B : Nat} (h : Off F w w') (hF : ∀ b, F b → B ≤ b) (hB : B ≤ w.heap.size) : Below B w w' :=
 ⟨h.os, h.tape, h.output, h.size, fun k hk => h.block k (by omega) (fun hf => by have := hF k hf; omega)⟩
theorem Kept.of_below {F : Nat → Prop} {w w' : World} (h : Below w.heap.size w w') : Kept F w w' := ⟨h.size, fun k hk _ => h.block k hk⟩
theorem Kept.of_off {F G : Nat → Prop} {w w' : World} (h : Off G w w') (hd : ∀ k, F k → ¬ G k) : Kept F w w' := ⟨h.size, fun k hk hF => h.block k hk (hd k hF)⟩
def OwnF (F : Nat → Prop) (w : World) (e : TypeId) (size : Nat) (v : Value) (n : Nat) (xs : List Value) : Prop := w.ownsRow 0 e size v n xs ∧ ∀ k, v.ownBlock = some k → F k
section
variable {F G : Nat → Prop} {w w' : World} {e : TypeId} {size n : Nat} {v : Value} {xs : List Value}
theorem OwnF.mono (h : OwnF F w e size v n xs) (hs : ∀ k, F k → G k) : OwnF G w e size v n xs := ⟨h.1, fun k hk => hs k (h.2 k hk)⟩
theorem OwnF.stay (h : OwnF F w e size v n xs) (hk : ∀ k, v.ownBlock = some k → w'.heap[k]? = w.heap[k]?) : OwnF F w' e size v n xs := by
 refine ⟨⟨h.1.1, ?_⟩, h.2⟩
 rcases h.1.2 with hn | ⟨g, cap, cur, rfl, hb, hg, rest⟩
 ·exact .inl hn
 ·exact .inr ⟨g, cap, cur, rfl, hb, by rw [hk g rfl]; exact hg, rest⟩
theorem OwnF.kept (h : OwnF F w e size v n xs) (hk : Kept F w w') : OwnF F w' e size v n xs := h.stay fun k he => hk.2 k (h.1.lt k he).2 (h.2 k he)
theorem OwnF.below (h : OwnF F w e size v n xs) (hk : Below w.heap.size w w') : OwnF F w' e size v n xs := h.kept (.of_below hk)
theorem OwnF.other (h : OwnF F w e size v n xs) {k : Nat} {cur : Array Value} {t : TypeId} {m : Nat × Nat} (hk : w.heap[k]? = some (.cells cur t m)) (hne : t ≠ e) : v.ownBlock ≠ some k := fun he => by
 rcases h.1.2 with ⟨rfl, _⟩ | ⟨g, cap, cur', rfl, _, hg, _⟩
 ·simp [Value.ownBlock] at he
 ·obtain rfl : g = k := by simpa [Value.ownBlock] using he
  rw [hk] at hg
  cases hg
  exact hne rfl
theorem OwnF.blk (h : OwnF F w e size v n xs) {k : Nat} (hk : v.ownBlock = some k) : ∃ cur, w.heap[k]? = some (.cells cur e (0, 0)) := by
 rcases h.1.2 with ⟨rfl, _⟩ | ⟨g, cap, cur', rfl, _, hg, _⟩
 ·simp [Value.ownBlock] at hk
 ·obtain rfl : g = k := by simpa [Value.ownBlock] using hk
  exact ⟨_, hg⟩
theorem OwnF.apart {G : Nat → Prop} {e' : TypeId} {size' n' : Nat} {v' : Value} {xs' : List Value} (h : OwnF F w e size v n xs) (h' : OwnF G w e' size' v' n' xs') (hne : e ≠ e') {k : Nat} (hk : v'.ownBlock = some k) : v.ownBlock ≠ some k := by
 obtain ⟨cur, hc⟩ := h'.blk hk
 exact h.other hc (fun x => hne x.symm)
end
structure Hd where
 A : Option Addr
 n : Nat
 c : Nat
instance : Inhabited Hd := ⟨⟨none, 0, 0⟩⟩
def hdV (x : Hd) : List Value := [.slice x.A x.n x.c]
theorem hdV_len (x : Hd) : (hdV x).length = 1 := rfl
def Hd.v (x : Hd) : Value := .slice x.A x.n x.c
def TuM (F : Nat → Prop) (x : Hd) (l : Tu) (w : World) : Prop := x.n = l.length ∧ OwnF F w 52 6 x.v l.length (rowsV ndV l)
theorem TuM.tua {F : Nat → Prop} {x : Hd} {l : Tu} {w : World} (h : TuM F x l w) : TuA x.A x.n l w := by
 obtain ⟨h1, h2⟩ := h
 refine ⟨h1.symm, ?_⟩
 have h3 := h2.1
 unfold Hd.v at h3
 rw [← h1] at h3
 exact Sl_rows ndV_len h3 h1.symm (by decide)
theorem TuM.nil (F : Nat → Prop) (w : World) : TuM F ⟨none, 0, 0⟩ [] w := ⟨rfl, World.ownsRow_nil _ _ _ _, fun k hk => by simp [Hd.v, Value.ownBlock] at hk⟩
structure FlM (F : Nat → Prop) (x : Fm) (ts : List Hd) (f : Fl) (w : World) : Prop where
 call : x.call = f.call
 wake : x.wake = f.wake
 slot : x.slot = f.slot
 lands : x.lands = f.lands
 land : x.land = f.land
 nland : x.nland = f.nland
 ln : x.ln = f.legs.length
 tl : ts.length = f.legs.length
 legs : OwnF F w 44 1 (.slice x.la x.ln x.lc) f.legs.length (rowsV hdV ts)
 leg : ∀ j, j < f.legs.length → TuM F ts[j]! f.legs[j]! w
 next : TuM F ⟨x.na, x.nn, x.nc⟩ f.next w
theorem FlM.stay {F : Nat → Prop} {x : Fm} {ts : List Hd} {f : Fl} {w w' : World} (h : FlM F x ts f w) (hk : ∀ k, F k → k < w.heap.size → (∃ cur t, w.heap[k]? = some (.cells cur t (0, 0)) ∧ (t = 52 ∨ (t = 44 ∧ (Value.slice x.la x.ln x.lc).ownBlock = some k))) → w'.heap[k]? = w.heap[k]?) : FlM F x ts f w' := by
 have key : ∀ {v : Value} {l : Tu}, OwnF F w 52 6 v l.length (rowsV ndV l) → OwnF F w' 52 6 v l.length (rowsV ndV l) := fun {v l} ho => ho.stay fun k he => by
  obtain ⟨cur, hc⟩ := ho.blk he
  exact hk k (ho.2 k he) (ho.1.lt k he).2 ⟨cur, 52, hc, .inl rfl⟩
 exact ⟨h.call, h.wake, h.slot, h.lands, h.land, h.nland, h.ln, h.tl, h.legs.stay (fun k he => by
  obtain ⟨cur, hc⟩ := h.legs.blk he
  exact hk k (h.legs.2 k he) (h.legs.1.lt k he).2 ⟨cur, 44, hc, .inr ⟨rfl, he⟩⟩), fun j hj => ⟨(h.leg j hj).1, key (h.leg j hj).2⟩, ⟨h.next.1, key h.next.2⟩⟩
theorem FlM.kept {F : Nat → Prop} {x : Fm} {ts : List Hd} {f : Fl} {w w' : World} (h : FlM F x ts f w) (hk : Kept F w w') : FlM F x ts f w' := h.stay fun k hF hl _ => hk.2 k hl hF
theorem FlM.mono {F G : Nat → Prop} {x : Fm} {ts : List Hd} {f : Fl} {w : World} (h : FlM F x ts f w) (hs : ∀ k, F k → G k) : FlM G x ts f w :=
 ⟨h.call, h.wake, h.slot, h.lands, h.land, h.nland, h.ln, h.tl, h.legs.mono hs, fun j hj => ⟨(h.leg j hj).1, (h.leg j hj).2.mono hs⟩, ⟨h.next.1, h.next.2.mono hs⟩⟩
structure Lay where
 fs : List Fm
 ts : List (List Hd)
 fh : Hd
 oh : Hd
 L : Nat
 lA : Option Addr
 lc : Nat
def ceV (S : Su) (c : Ce) (y : Lay) : Array Value := #[.int .i64 S.lat, .int .i64 S.vert, .int .i64 (S.g 0), .int .i64 (S.g 1), .int .i64 (S.g 2), .int .i64 (S.g 3), .int .i64 (S.g 4), .int .i64 (S.g 5), .int .i64 (S.g 6), .int .i64 (S.g 7), .int .i64 (S.g 8), .int .i64 (S.g 9), .int .i64 (S.g 10), .int .i64 (S.g 11), .int .i64 (S.g 12), .int .i64 (S.g 13), .int .i64 (S.g 14), .int .i64 (S.g 15), .int .i64 c.time, .slice y.fh.A y.fh.n y.fh.c, .slice y.oh.A y.oh.n y.oh.c, .pointer (some ⟨y.L, 0, none⟩), .int .i64 (c.acc : Int)]
structure CeM (F : Nat → Prop) (g : Nat) (S : Su) (c : Ce) (y : Lay) (w : World) : Prop where
 bd : ∀ b, F b → b < w.heap.size
 fg : F g
 cs : w.heap[g]? = some (.cells (ceV S c y) 102 (0, 0))
 fn : y.fs.length = c.fl.length
 tn : y.ts.length = c.fl.length
 fh : y.fh.n = c.fl.length
 fown : OwnF F w 46 8 y.fh.v c.fl.length (rowsV fmV y.fs)
 fl : ∀ i, i < c.fl.length → FlM F y.fs[i]! y.ts[i]! c.fl[i]! w
 apart : ∀ i j k, i < c.fl.length → j < c.fl.length → i ≠ j → (Value.slice (y.fs[i]!).la (y.fs[i]!).ln (y.fs[i]!).lc).ownBlock = some k → (Value.slice (y.fs[j]!).la (y.fs[j]!).ln (y.fs[j]!).lc).ownBlock ≠ some k
 oh : y.oh.n = c.ow.length
 oown : OwnF F w 136 3 y.oh.v c.ow.length (rowsV owV c.ow)
 lg : F y.L
 log : LogA y.L y.lA y.lc c.log w
 lrow : ∀ k, (Value.slice y.lA c.log.length y.lc).ownBlock = some k → F k
def CeAt (F : Nat → Prop) (g : Nat) (S : Su) (c : Ce) (w : World) : Prop := ∃ y, CeM F g S c y w
section
variable {F G : Nat → Prop} {g : Nat} {S : Su} {c : Ce} {y : Lay} {w w' : World}
theorem LogA.keptF {g c : Nat} {A : Option Addr} {l : List Ent} (h : LogA g A c l w) (hg : F g) (hr : ∀ k, (Value.slice A l.length c).ownBlock = some k → F k) (hk : Kept F w w') : LogA g A c l w' := by
 refine ⟨(hk.2 g h.lt hg).trans h.1, h.2.1, ?_⟩
 rcases h.2.2 with hn | ⟨b, cap, cur, e, hb, hbk, rest⟩
 ·exact .inl hn
 ·refine .inr ⟨b, cap, cur, e, hb, ?_, rest⟩
  rw [hk.2 b (Array.getElem?_eq_some_iff.1 hbk).1 (hr b (by rw [e]; rfl))]
  exact hbk
theorem CeM.kept (h : CeM F g S c y w) (hk : Kept F w w') : CeM F g S c y w' :=
 ⟨fun b hb => Nat.lt_of_lt_of_le (h.bd b hb) hk.1, h.fg, (hk.2 g (h.bd g h.fg) h.fg).trans h.cs, h.fn, h.tn, h.fh, h.fown.kept hk, fun i hi => (h.fl i hi).kept hk, h.apart, h.oh, h.oown.kept hk, h.lg, h.log.keptF h.lg h.lrow hk, h.lrow⟩
theorem CeM.below (h : CeM F g S c y w) (hb : Below w.heap.size w w') : CeM F g S c y w' := h.kept (.of_below hb)
theorem CeM.mono (h : CeM F g S c y w) (hs : ∀ k, F k → G k) (hG : ∀ b, G b → b < w.heap.size) : CeM G g S c y w :=
 ⟨hG, hs _ h.fg, h.cs, h.fn, h.tn, h.fh, h.fown.mono hs, fun i hi => (h.fl i hi).mono hs, h.apart, h.oh, h.oown.mono hs, hs _ h.lg, h.log, fun k hk => hs k (h.lrow k hk)⟩
theorem CeM.grow (h : CeM F g S c y w') (hb : ∀ b, F b → b < w.heap.size) (hs : w.heap.size ≤ w'.heap.size) : CeM (grow F w w') g S c y w' :=
 h.mono (fun _ hk => .inl hk) (fun b hk => by
  rcases hk with hk | hk
  ·have := hb b hk; omega
  ·exact hk.2)
theorem CeM.cell (h : CeM F g S c y w) (i : Nat) : w.cell? ⟨g, i, none⟩ = (ceV S c y)[i]? := cell_of_row _ _ _ _ _ _ h.cs
theorem CeM.frozen (h : CeM F g S c y w) (i : Nat) : w.frozen? ⟨g, i, none⟩ = false := frozen_of_row _ _ _ _ _ h.cs
theorem CeM.owa (h : CeM F g S c y w) : OwA y.oh.A y.oh.n c.ow w := by
 have h3 := h.oown.1
 unfold Hd.v at h3
 rw [← h.oh] at h3
 exact ⟨h.oh.symm, Sl_rows owV_len h3 h.oh.symm (by decide)⟩
theorem CeM.sl (h : CeM F g S c y w) : Sl w w.heap.size 8 y.fh.A y.fh.n (fun i => fmV y.fs[i]!) := by
 have h3 := h.fown.1
 unfold Hd.v at h3
 rw [← h.fh] at h3
 exact Sl_rows fmV_len h3 (by rw [h.fn, h.fh]) (by decide)
end
end
section
open Go.RowKit
def BsfFlP (_ lo : Nat) (is : Bool) (w : World) (e : Ending) (w' : World) : Prop := e = .returned (.tuple #[.int .i64 (lo : Int), .bool is]) ∧ Below w.heap.size w w'
set_option maxRecDepth 100000 in
set_option maxHeartbeats 4000000 in
theorem BsfFl_any (A : Option Addr) (n c p : Nat) (f : Nat → Fm) (t : ByteArray) (cf : Fm → Int) (w : World) (hA : Sl w w.heap.size 8 A n (fun i => (fun x : Fm => [.string x.1, .int .i64 x.2, .int .i64 x.3, .bool x.4, .slice x.5 x.6 x.7, .slice x.8 x.9 x.10, .int .i64 x.11, .int .i64 x.12]) (f i))) (hn : n ≤ 1000000) (hp : p ≤ n)
  (hcmp : ∀ (W : World) (x : Fm), Below w.heap.size w W → Calls Tryz.prog 157 #[.agg #[.string x.1, .int .i64 x.2, .int .i64 x.3, .bool x.4, .slice x.5 x.6 x.7, .slice x.8 x.9 x.10, .int .i64 x.11, .int .i64 x.12], .string t] W fun e w' => e = .returned (.int .i64 (cf x)) ∧ Below W.heap.size W w')
  (hlo : ∀ i, i < p → cf (f i) < 0) (hhi : ∀ i, p ≤ i → i < n → 0 ≤ cf (f i)) :
  Calls Tryz.prog 156 #[.slice A n c, .string t, .func (.func 157) #[] #[]] w (BsfFlP n p (decide (p < n) && decide (cf (f p) = 0)) w) := by
 have HA := Lib.hid hA
 have HC := Lib.hid hcmp
 have HL := Lib.hid hlo
 have HH := Lib.hid hhi
 clear hA hcmp hlo hhi
 go_enter Tryz.func156, Tryz.ntmps156
 go_wp2
 go_loopw [9, 10] (fun a b wr => ∃ lo hi : Nat, a = .int .i64 lo ∧ b = .int .i64 hi ∧ lo ≤ p ∧ p ≤ hi ∧ hi ≤ n ∧ Below w.heap.size w wr) (fun a b _ => (intOf b).toNat - (intOf a).toNat)
 case atStart => exact ⟨0, n, rfl, rfl, Nat.zero_le _, hp, Nat.le_refl _, Below.refl _ _⟩
 case round =>
  obtain ⟨lo, hi, rfl, rfl, hlp, hph, hin, hbl⟩ := hrel
  by_cases hlt : lo < hi
  ·obtain ⟨b, off, rfl, hb, hr⟩ := HA.out (by omega)
   have hmid : (lo + hi) / 2 < n := by omega
   have hmid2 : (lo + hi) / 2 < hi := by omega
   have c0 : wr.cell? ⟨b, off + (lo + hi) / 2 * 8, none⟩ = some (.string (f ((lo + hi) / 2)).1) := (hbl.cell (p := ⟨b, _, none⟩) hb).trans (hr ((lo + hi) / 2) hmid 0 _ rfl)
   have c1 : wr.cell? ⟨b, off + (lo + hi) / 2 * 8 + 1, none⟩ = some (.int .i64 (f ((lo + hi) / 2)).2) := (hbl.cell (p := ⟨b, _, none⟩) hb).trans (hr ((lo + hi) / 2) hmid 1 _ rfl)
   have c2 : wr.cell? ⟨b, off + (lo + hi) / 2 * 8 + 2, none⟩ = some (.int .i64 (f ((lo + hi) / 2)).3) := (hbl.cell (p := ⟨b, _, none⟩) hb).trans (hr ((lo + hi) / 2) hmid 2 _ rfl)
   have c3 : wr.cell? ⟨b, off + (lo + hi) / 2 * 8 + 3, none⟩ = some (.bool (f ((lo + hi) / 2)).4) := (hbl.cell (p := ⟨b, _, none⟩) hb).trans (hr ((lo + hi) / 2) hmid 3 _ rfl)
   have c4 : wr.cell? ⟨b, off + (lo + hi) / 2 * 8 + 4, none⟩ = some (.slice (f ((lo + hi) / 2)).5 (f ((lo + hi) / 2)).6 (f ((lo + hi) / 2)).7) := (hbl.cell (p := ⟨b, _, none⟩) hb).trans (hr ((lo + hi) / 2) hmid 4 _ rfl)
   have c5 : wr.cell? ⟨b, off + (lo + hi) / 2 * 8 + 5, none⟩ = some (.slice (f ((lo + hi) / 2)).8 (f ((lo + hi) / 2)).9 (f ((lo + hi) / 2)).10) := (hbl.cell (p := ⟨b, _, none⟩) hb).trans (hr ((lo + hi) / 2) hmid 5 _ rfl)
   have c6 : wr.cell? ⟨b, off + (lo + hi) / 2 * 8 + 6, none⟩ = some (.int .i64 (f ((lo + hi) / 2)).11) := (hbl.cell (p := ⟨b, _, none⟩) hb).trans (hr ((lo + hi) / 2) hmid 6 _ rfl)
   have c7 : wr.cell? ⟨b, off + (lo + hi) / 2 * 8 + 7, none⟩ = some (.int .i64 (f ((lo + hi) / 2)).12) := (hbl.cell (p := ⟨b, _, none⟩) hb).trans (hr ((lo + hi) / 2) hmid 7 _ rfl)
   clear hr
   generalize hy : f ((lo + hi) / 2) = x at c0 c1 c2 c3 c4 c5 c6 c7
   have HY := Lib.hid hy
   have HB := Lib.hid hbl
   clear hy hbl
   by_cases hx : cf x < 0
   ·have hpm : (lo + hi) / 2 < p := by
     refine Nat.lt_of_not_le fun h => ?_
     have := HH.out _ h hmid
     rw [HY.out] at this; omega
    go_wp2_with (go_at_call 157; go_loud (refine (HC.out _ x HB.out).mono ?_; rintro e w' ⟨rfl, hb'⟩))
    go_roundw
    case rel => exact ⟨(lo + hi) / 2 + 1, hi, by rw [show ((lo : Int) + (hi : Int)) / 2 + 1 = (((lo + hi) / 2 + 1 : Nat) : Int) by omega], rfl, by omega, hph, hin, HB.out.trans (hb'.mono HB.out.size)⟩
    case measure => simp [intOf]; omega
   ·have hpm : p ≤ (lo + hi) / 2 := by
     refine Nat.le_of_not_lt fun h => ?_
     exact hx (by rw [← HY.out]; exact HL.out _ h)
    go_wp2_with (go_at_call 157; go_loud (refine (HC.out _ x HB.out).mono ?_; rintro e w' ⟨rfl, hb'⟩))
    go_roundw
    case rel => exact ⟨lo, (lo + hi) / 2, rfl, by rw [show ((lo : Int) + (hi : Int)) / 2 = (((lo + hi) / 2 : Nat) : Int) by omega], hlp, hpm, by omega, HB.out.trans (hb'.mono HB.out.size)⟩
    case measure => simp [intOf]; omega
  ·obtain rfl : lo = p := by omega
   obtain rfl : lo = hi := by omega
   by_cases hlt : lo < n
   ·obtain ⟨b, off, rfl, hb, hr⟩ := HA.out (by omega)
    have c0 : wr.cell? ⟨b, off + lo * 8, none⟩ = some (.string (f lo).1) := (hbl.cell (p := ⟨b, _, none⟩) hb).trans (hr lo hlt 0 _ rfl)
    have c1 : wr.cell? ⟨b, off + lo * 8 + 1, none⟩ = some (.int .i64 (f lo).2) := (hbl.cell (p := ⟨b, _, none⟩) hb).trans (hr lo hlt 1 _ rfl)
    have c2 : wr.cell? ⟨b, off + lo * 8 + 2, none⟩ = some (.int .i64 (f lo).3) := (hbl.cell (p := ⟨b, _, none⟩) hb).trans (hr lo hlt 2 _ rfl)
    have c3 : wr.cell? ⟨b, off + lo * 8 + 3, none⟩ = some (.bool (f lo).4) := (hbl.cell (p := ⟨b, _, none⟩) hb).trans (hr lo hlt 3 _ rfl)
    have c4 : wr.cell? ⟨b, off + lo * 8 + 4, none⟩ = some (.slice (f lo).5 (f lo).6 (f lo).7) := (hbl.cell (p := ⟨b, _, none⟩) hb).trans (hr lo hlt 4 _ rfl)
    have c5 : wr.cell? ⟨b, off + lo * 8 + 5, none⟩ = some (.slice (f lo).8 (f lo).9 (f lo).10) := (hbl.cell (p := ⟨b, _, none⟩) hb).trans (hr lo hlt 5 _ rfl)
    have c6 : wr.cell? ⟨b, off + lo * 8 + 6, none⟩ = some (.int .i64 (f lo).11) := (hbl.cell (p := ⟨b, _, none⟩) hb).trans (hr lo hlt 6 _ rfl)
    have c7 : wr.cell? ⟨b, off + lo * 8 + 7, none⟩ = some (.int .i64 (f lo).12) := (hbl.cell (p := ⟨b, _, none⟩) hb).trans (hr lo hlt 7 _ rfl)
    clear hr
    generalize hy : f lo = x at c0 c1 c2 c3 c4 c5 c6 c7
    have HB := Lib.hid hbl
    have HY := Lib.hid hy
    clear hy hbl
    by_cases hx : cf x = 0
    ·have HV := Lib.hid (show (decide (lo < n) && decide (cf (f lo) = 0)) = true by rw [HY.out]; simp [hlt, hx])
     have hx' : (cf x == 0) = true := by simp [hx]
     have HX := Lib.hid hx
     clear hx
     go_wp2_with (go_at_call 157; go_loud (refine (HC.out _ x HB.out).mono ?_; rintro e w' ⟨rfl, hb'⟩))
     go_ret2
     exact ⟨by rw [HV.out]; rfl, HB.out.trans (hb'.mono HB.out.size)⟩
    ·have HV := Lib.hid (show (decide (lo < n) && decide (cf (f lo) = 0)) = false by rw [HY.out]; simp [hx])
     have hx' : (cf x == 0) = false := by simp [hx]
     have HX := Lib.hid hx
     clear hx
     go_wp2_with (go_at_call 157; go_loud (refine (HC.out _ x HB.out).mono ?_; rintro e w' ⟨rfl, hb'⟩))
     go_ret2
     exact ⟨by rw [HV.out]; rfl, HB.out.trans (hb'.mono HB.out.size)⟩
   ·have HV := Lib.hid (show (decide (lo < n) && decide (cf (f lo) = 0)) = false by simp [hlt])
    have HB := Lib.hid hbl
    clear hbl
    go_wp2
    go_ret2
    exact ⟨by rw [HV.out]; rfl, HB.out⟩
end
section
open Go.RowKit
theorem lowO_at : ∀ {l : List Ow} {s : ByteArray}, lowO l s < l.length → lsS (l[lowO l s]!).call s = false
 | [], s, h => by simp at h
 | x :: r, s, h => by
  by_cases h0 : lsS x.call s = true
  ·have e : lowO (x :: r) s = lowO r s + 1 := by rw [lowO, if_pos h0]
   rw [e] at h ⊢
   rw [List.getElem!_cons_succ]
   exact lowO_at (by simp at h; omega)
  ·have e : lowO (x :: r) s = 0 := by rw [lowO, if_neg h0]
   rw [e]
   simpa using h0
theorem lowO_lo {l : List Ow} {s : ByteArray} {i : Nat} (h : i < lowO l s) : lsS (l[i]!).call s = true := by
 have hle := lowO_le l s
 refine take_low l s _ ?_
 rw [getElem!_pos l i (by omega)]
 exact List.mem_take_iff_getElem.2 ⟨i, by omega, rfl⟩
theorem lowO_hi {l : List Ow} (hok : OwOk l) {s : ByteArray} {i : Nat} (h : lowO l s ≤ i) (hi : i < l.length) : lsS (l[i]!).call s = false := by
 have h0 := lowO_at (l := l) (s := s) (by omega)
 by_cases e : lowO l s = i
 ·rw [← e]; exact h0
 ·cases h1 : lsS (l[i]!).call s with
  | false => rfl
  | true =>
   have hp := List.pairwise_iff_getElem.1 hok.pw (lowO l s) i (by omega) hi (by omega)
   have hp' : lsS (l[lowO l s]!).call (l[i]!).call = true := by rw [getElem!_pos l _ (by omega), getElem!_pos l i hi]; exact hp
   rw [lsS_tr hp' h1] at h0; cases h0
set_option maxHeartbeats 400000 in
theorem cmpF_one (t : ByteArray) (W : World) (x : Fm) : Calls Tryz.prog 157 #[.agg #[.string x.1, .int .i64 x.2, .int .i64 x.3, .bool x.4, .slice x.5 x.6 x.7, .slice x.8 x.9 x.10, .int .i64 x.11, .int .i64 x.12], .string t] W fun e w' => e = .returned (.int .i64 (cmpS x.1 t)) ∧ Below W.heap.size W w' := by
 go_enter Tryz.func157, Tryz.ntmps157
 go_wp2_with (go_at_call 158; refine (Compare_any _ _ _).mono ?_; rintro e w' ⟨rfl, rfl⟩)
 go_ret
 exact ⟨rfl, (Below.refl _ W).alloc (Nat.le_refl _) _⟩
theorem CeOk.call {c : Ce} (h : CeOk c) {i : Nat} (hi : i < c.fl.length) : (c.fl[i]!).call = (c.ow[i]!).call := by
 have e := congrArg (fun l : List ByteArray => l[i]?) h.calls
 simp only [List.getElem?_map] at e
 have hi2 : i < c.ow.length := by rw [← h.len]; exact hi
 rw [List.getElem?_eq_getElem hi, List.getElem?_eq_getElem hi2] at e
 rw [getElem!_pos c.fl i hi, getElem!_pos c.ow i hi2]
 simpa using e
theorem CeM.call {F : Nat → Prop} {g : Nat} {S : Su} {c : Ce} {y : Lay} {w : World} (h : CeM F g S c y w) (hok : CeOk c) {i : Nat} (hi : i < c.fl.length) : (y.fs[i]!).call = (c.ow[i]!).call :=
 (h.fl i hi).call.trans (hok.call hi)
def FindP (c : Ce) (s : ByteArray) (w : World) (e : Ending) (w' : World) : Prop := e = .returned (.tuple #[.int .i64 (lowO c.ow s : Nat), .bool (isO c.ow s)]) ∧ Below w.heap.size w w'
set_option maxRecDepth 100000 in
set_option maxHeartbeats 2000000 in
theorem find_any {F : Nat → Prop} {g : Nat} {S : Su} {c : Ce} {y : Lay} {w : World} (h : CeM F g S c y w) (hok : CeOk c) (s : ByteArray) :
  Calls Tryz.prog 107 #[.pointer (some ⟨g, 0, none⟩), .string s] w (FindP c s w) := by
 have hlen := hok.len
 have hn := hok.ow.n
 have hle := lowO_le c.ow s
 have hfh := h.fh
 have hcon := BsfFl_any y.fh.A y.fh.n y.fh.c (lowO c.ow s) (fun i => y.fs[i]!) s (fun x => cmpS x.1 s) w h.sl (by omega) (by omega) (fun W x _ => cmpF_one s W x)
  (fun i hi => cmpS_lt.2 (by
   have e := h.call hok (i := i) (by omega)
   show lsS (y.fs[i]!).call s = true
   rw [e]; exact lowO_lo hi))
  (fun i h1 h2 => by
   have e := h.call hok (i := i) (by omega)
   have h3 := lowO_hi hok.ow (s := s) h1 (by omega)
   rcases Int.lt_or_le (cmpS (y.fs[i]!).1 s) 0 with h4 | h4
   ·rw [cmpS_lt] at h4
    have h5 : lsS (y.fs[i]!).call s = true := h4
    rw [e, h3] at h5; cases h5
   ·exact h4)
 have hb : (decide (lowO c.ow s < y.fh.n) && decide (cmpS (y.fs[lowO c.ow s]!).1 s = 0)) = isO c.ow s := by
  unfold isO
  rw [hfh, hlen]
  by_cases h1 : lowO c.ow s < c.ow.length
  ·have e := h.call hok (i := lowO c.ow s) (by omega)
   have e2 : (cmpS (y.fs[lowO c.ow s]!).1 s = 0) = ((c.ow[lowO c.ow s]!).call = s) := by
    rw [← e]; exact propext cmpS_eq
   simp only [e2]
  ·rw [decide_eq_false h1]; rfl
 rw [hb] at hcon
 have HC := Lib.hid hcon
 have c19 := h.cell 19
 have c19' : w.cell? ⟨g, 19, none⟩ = some (.slice y.fh.A y.fh.n y.fh.c) := c19
 unfold FindP
 unfold BsfFlP at HC
 generalize isO c.ow s = is at *
 generalize lowO c.ow s = p at *
 clear h hok hcon hb hlen hn hle hfh c19
 go_enter Tryz.func107, Tryz.ntmps107
 go_wp2_with (go_at_call 156; go_loud (refine HC.out.mono ?_; rintro e w' ⟨rfl, hb⟩))
 go_ret2
 exact ⟨rfl, hb⟩
end
section
open Go.RowKit
def MethP (F : Nat → Prop) (g : Nat) (S : Su) (w : World) (d : Ce × Int) (e : Ending) (w' : World) : Prop :=
 e = .returned (.int .i64 d.2) ∧ ∃ F' : Nat → Prop, CeAt F' g S d.1 w' ∧ Off F w w' ∧ ∀ b, F' b → F b ∨ w.heap.size ≤ b
section
variable {F G : Nat → Prop} {g : Nat} {S : Su} {c : Ce} {y : Lay} {w W W' : World}
theorem MethP.same (h : CeM F g S c y w) (hb : Below w.heap.size w W) (k : Int) : MethP F g S w (c, k) (.returned (.int .i64 k)) W :=
 ⟨rfl, F, ⟨y, h.below hb⟩, .of_below hb, fun _ h => .inl h⟩
def Clean (F : Nat → Prop) (dirty : Nat → Prop) (W W' : World) : Prop :=
 W.heap.size ≤ W'.heap.size ∧ ∀ k cur t, F k → W.heap[k]? = some (.cells cur t (0, 0)) → t ≠ 102 → t ≠ 46 → (t = 44 → ¬ dirty k) → W'.heap[k]? = W.heap[k]?
theorem Clean.fl {dirty : Nat → Prop} (hk : Clean F dirty W W') (h : CeM F g S c y W) (i : Nat) (hi : i < c.fl.length) (hd : ∀ k, (Value.slice (y.fs[i]!).la (y.fs[i]!).ln (y.fs[i]!).lc).ownBlock = some k → ¬ dirty k) : FlM F y.fs[i]! y.ts[i]! c.fl[i]! W' :=
 (h.fl i hi).stay fun k hF _ ⟨cur, t, hc, ht⟩ => by
  rcases ht with rfl | ⟨rfl, he⟩
  ·exact hk.2 k cur 52 hF hc (by decide) (by decide) (fun e => absurd e (by decide))
  ·exact hk.2 k cur 44 hF hc (by decide) (by decide) (fun _ => hd k he)
theorem Clean.ow {dirty : Nat → Prop} (hk : Clean F dirty W W') (h : CeM F g S c y W) : OwnF F W' 136 3 y.oh.v c.ow.length (rowsV owV c.ow) :=
 h.oown.stay fun k he => by
  obtain ⟨cur, hc⟩ := h.oown.blk he
  exact hk.2 k cur 136 (h.oown.2 k he) hc (by decide) (by decide) (fun e => absurd e (by decide))
theorem Clean.log {dirty : Nat → Prop} (hk : Clean F dirty W W') (h : CeM F g S c y W) : LogA y.L y.lA y.lc c.log W' := by
 have hl := h.log
 refine ⟨(hk.2 y.L _ 123 h.lg hl.1 (by decide) (by decide) (fun e => absurd e (by decide))).trans hl.1, hl.2.1, ?_⟩
 rcases hl.2.2 with hn | ⟨b, cap, cur, e, hb, hbk, rest⟩
 ·exact .inl hn
 ·refine .inr ⟨b, cap, cur, e, hb, ?_, rest⟩
  rw [hk.2 b cur 78 (h.lrow b (by rw [e]; rfl)) hbk (by decide) (by decide) (fun e => absurd e (by decide))]
  exact hbk
theorem Clean.trans {dirty : Nat → Prop} {a b d : World} (h : Clean F dirty a b) (k : Clean F dirty b d) : Clean F dirty a d :=
 ⟨Nat.le_trans h.1 k.1, fun i cur t hF hc h1 h2 h3 => (k.2 i cur t hF ((h.2 i cur t hF hc h1 h2 h3).trans hc) h1 h2 h3).trans (h.2 i cur t hF hc h1 h2 h3)⟩
theorem Clean.of_kept {dirty : Nat → Prop} {a b : World} (h : Kept F a b) : Clean F dirty a b := ⟨h.1, fun k _ _ hF hc _ _ _ => h.2 k (Array.getElem?_eq_some_iff.1 hc).1 hF⟩
theorem Clean.of_below {dirty : Nat → Prop} {a b : World} (h : Below a.heap.size a b) : Clean F dirty a b := .of_kept (.of_below h)
theorem Clean.grown {dirty : Nat → Prop} {a b : World} {row : Option Nat} (h : a.grownBy b row) (hr : ∀ k, row = some k → ∃ cur t, a.heap[k]? = some (.cells cur t (0, 0)) ∧ (t = 102 ∨ t = 46 ∨ (t = 44 ∧ dirty k))) : Clean F dirty a b :=
 ⟨h.size, fun k cur t _ hc h1 h2 h3 => h.block k (Array.getElem?_eq_some_iff.1 hc).1 (fun e => by
  obtain ⟨cur', t', hc', ht⟩ := hr k e.symm
  rw [hc] at hc'
  cases hc'
  rcases ht with ht | ht | ⟨ht, hd⟩
  ·exact h1 ht
  ·exact h2 ht
  ·exact h3 ht hd)⟩
theorem Clean.set {dirty : Nat → Prop} {a b : World} (h : Clean F dirty a b) {p : Addr} (u : Value) (hr : ∃ cur t, b.heap[p.block]? = some (.cells cur t (0, 0)) ∧ (t = 102 ∨ t = 46 ∨ (t = 44 ∧ dirty p.block))) : Clean F dirty a (b.setCell p u) := by
 refine ⟨by simp [World.setCell]; exact h.1, fun k cur t hF hc h1 h2 h3 => ?_⟩
 have hb := h.2 k cur t hF hc h1 h2 h3
 refine (Below.heap_setCell _ _ _ _ (fun e => ?_)).trans hb
 obtain ⟨cur', t', hc', ht⟩ := hr
 rw [← e, hb, hc] at hc'
 cases hc'
 rcases ht with ht | ht | ⟨ht, hd⟩
 ·exact h1 ht
 ·exact h2 ht
 ·rw [e] at h3; exact h3 ht hd
end
theorem set_typed {w : World} {k : Nat} {cur : Array Value} {t : TypeId} (h : w.heap[k]? = some (.cells cur t (0, 0))) (p : Addr) (u : Value) (hp : p.spot = none) : ∃ cur', (w.setCell p u).heap[k]? = some (.cells cur' t (0, 0)) := by
 by_cases e : k = p.block
 ·obtain ⟨b, o, s⟩ := p
  dsimp only at e hp
  subst e
  subst hp
  exact ⟨_, heap_setCell_same _ _ _ _ _ _ h⟩
 ·exact ⟨cur, (Below.heap_setCell _ _ _ _ e).trans h⟩
theorem ins_at {α : Type} [Inhabited α] (l : List α) (p : Nat) (hp : p ≤ l.length) (x : α) (i : Nat) (hi : i ≤ l.length) : (l.take p ++ x :: l.drop p)[i]! = if i < p then l[i]! else if i = p then x else l[i - 1]! := by
 have hl : (l.take p ++ x :: l.drop p).length = l.length + 1 := by simp; omega
 rw [getElem!_pos _ i (by omega)]
 by_cases h1 : i < p
 ·rw [if_pos h1, List.getElem_append_left (by simp; omega), List.getElem_take, getElem!_pos l i (by omega)]
 ·rw [if_neg h1]
  rw [List.getElem_append_right (by simp; omega)]
  by_cases h2 : i = p
  ·subst h2
   rw [if_pos rfl]
   simp [Nat.min_eq_left hp]
  ·rw [if_neg h2, getElem!_pos l (i - 1) (by omega)]
   have e : i - (l.take p).length = (i - p - 1) + 1 := by rw [List.length_take, Nat.min_eq_left hp]; omega
   rw [List.getElem_cons]
   rw [dif_neg (by rw [e]; omega), List.getElem_drop]
   congr 1
   rw [e]; omega
theorem del_at {α : Type} [Inhabited α] (l : List α) (p : Nat) (hp : p < l.length) (i : Nat) (hi : i + 1 < l.length) : (delL l p)[i]! = if i < p then l[i]! else l[i + 1]! := by
 unfold delL
 have hl : (l.take p ++ l.drop (p + 1)).length = l.length - 1 := by simp; omega
 rw [getElem!_pos _ i (by omega)]
 by_cases h1 : i < p
 ·rw [if_pos h1, List.getElem_append_left (by simp; omega), List.getElem_take, getElem!_pos l i (by omega)]
 ·rw [if_neg h1, List.getElem_append_right (by simp; omega), List.getElem_drop, getElem!_pos l (i + 1) (by omega)]
  congr 1
  rw [List.length_take, Nat.min_eq_left (by omega)]; omega
theorem set_at {α : Type} [Inhabited α] (l : List α) (p : Nat) (_hp : p < l.length) (x : α) (i : Nat) (hi : i < l.length) : (l.set p x)[i]! = if i = p then x else l[i]! := by
 rw [getElem!_pos _ i (by simpa using hi), List.getElem_set, getElem!_pos l i hi]
 by_cases h : p = i
 ·rw [if_pos h, if_pos h.symm]
 ·rw [if_neg h, if_neg (fun e => h e.symm)]
end
end Go.Proofs.YtaebebpldkciiaaGreatDoor
