/- slices.Insert of one element into a row of the caller's own, one instance. -/
import Derived.Test.YtjmdebeffpdpcaaGreatDoorIns
import Derived.Test.YtjmdebeffpdpcaaGreatDoorMore
namespace Go.Proofs.YtjmdebeffpdpcaaGreatDoor
open Go.RowKit

theorem InsertRw_info : (Tryz.prog.info? 54).map (fun i => (i.zero, i.size, i.bytes)) = some (some (.agg #[.string ByteArray.empty, .string ByteArray.empty]), 2, 32) := by kernel_rfl

/-- What an insertion leaves: the longer row, in its old block or in a new one. -/
def InsertRwP (base n c : Nat) (A : Option Addr) (ys : List Value) (w : World) (e : Ending) (w' : World) : Prop :=
  ∃ g' c', e = .returned (.slice (some ⟨g', 0, none⟩) (n + 1) c') ∧ w'.ownsRow base 54 2 (.slice (some ⟨g', 0, none⟩) (n + 1) c') (n + 1) ys ∧ w.grownBy w' (Value.slice A n c).ownBlock ∧ ((Value.slice A n c).ownBlock = some g' ∨ g' = w.heap.size) ∧ g' < w'.heap.size

set_option maxRecDepth 100000 in
set_option maxHeartbeats 4000000 in
theorem InsertRw_end (base n c vb : Nat) (A : Option Addr) (xs x : List Value) (w : World) (hown : w.ownsRow base 54 2 (.slice A n c) n xs) (hx : x.length = 2) (h1x : ∀ u ∈ x, u.oneCell' = true)
    (hvb : w.heap[vb]? = some (.cells x.toArray 54 (0, 0))) (hn : n + 1 ≤ 1000000) (hbase : base ≤ w.heap.size) (hnc : n ≤ c ∧ c ≤ maxLen) (hnil : A = none → n = 0 ∧ c = 0) :
    Calls Tryz.prog 68 #[.slice A n c, .int .i64 (n : Int), .slice (some ⟨vb, 0, none⟩) 1 1] w (InsertRwP base n c A (xs ++ x) w) := by
  obtain ⟨i0, J0, J1, J2, J3⟩ := info_parts InsertRw_info
  obtain ⟨hnc, hcm⟩ := hnc
  unfold maxLen at hcm
  have hnews : ∀ j u, x[j]? = some u → w.cell? ((⟨vb, 0, none⟩ : Addr).add j) = some u := fun j u hu => by
    rw [Addr.add_mid, Nat.zero_add, cell_of_row w vb j _ _ _ hvb]
    simpa using hu
  have HN := Lib.hid hnews
  have HO := Lib.hid hown
  have H1 := Lib.hid h1x
  clear hnews hown h1x hvb
  cases A with
  | none =>
    obtain ⟨rfl, rfl⟩ := hnil rfl
    have t := (HO.out).1
    go_enter Tryz.func68, Tryz.ntmps68
    go_wp2_with (at_builtin; go_loud (refine wpList_append_lies _ rfl (.tmp 23) (.tmp 24) 32 rfl base 54 i0 _ 2 32 Tryz.underlying32 J0 J1 J2 J3 rfl (by decide) (.slice none 0 0) 0 xs rfl HO.out ⟨vb, 0, none⟩ 1 1 x rfl (by omega) HN.out H1.out (by decide) (by simp only [maxLen]; omega) (by omega) hbase w.heap.size rfl ?_; intro g' c' w' h2 h3 h4 h5))
    go_ret
    exact ⟨g', c', rfl, h2, h3, h4, h5⟩
  | some ad =>
    clear hnil
    by_cases hcn : c = n
    · subst hcn
      go_enter Tryz.func68, Tryz.ntmps68
      go_wp2_with (at_builtin; go_loud (refine wpList_append_lies _ rfl (.tmp 23) (.tmp 24) 32 rfl base 54 i0 _ 2 32 Tryz.underlying32 J0 J1 J2 J3 rfl (by decide) (.slice (some ad) c c) c xs rfl HO.out ⟨vb, 0, none⟩ 1 1 x rfl (by omega) HN.out H1.out (by decide) (by simp only [maxLen]; omega) (by omega) hbase w.heap.size rfl ?_; intro g' c' w' h2 h3 h4 h5))
      go_ret
      exact ⟨g', c', rfl, h2, h3, h4, h5⟩
    · go_enter Tryz.func68, Tryz.ntmps68
      go_wp2_with (at_builtin; go_loud (refine wpList_append_lies _ rfl (.tmp 23) (.tmp 24) 32 rfl base 54 i0 _ 2 32 Tryz.underlying32 J0 J1 J2 J3 rfl (by decide) (.slice (some ad) n c) n xs rfl HO.out ⟨vb, 0, none⟩ 1 1 x rfl (by omega) HN.out H1.out (by decide) (by simp only [maxLen]; omega) (by omega) hbase w.heap.size rfl ?_; intro g' c' w' h2 h3 h4 h5))
      go_ret
      exact ⟨g', c', rfl, h2, h3, h4, h5⟩

set_option maxRecDepth 100000 in
set_option maxHeartbeats 4000000 in
theorem InsertRw_shift (base g n c i vb : Nat) (xs x : List Value) (w : World) (hown : w.ownsRow base 54 2 (.slice (some ⟨g, 0, none⟩) n c) n xs) (h1 : ∀ u ∈ xs, u.oneCell' = true) (hx : x.length = 2) (h1x : ∀ u ∈ x, u.oneCell' = true)
    (hvb : w.heap[vb]? = some (.cells x.toArray 54 (0, 0))) (hne : vb ≠ g) (hi : i < n) (hn : n + 1 ≤ 1000000) (hroom : n + 1 ≤ c) :
    Calls Tryz.prog 68 #[.slice (some ⟨g, 0, none⟩) n c, .int .i64 (i : Int), .slice (some ⟨vb, 0, none⟩) 1 1] w (InsertRwP base n c (some ⟨g, 0, none⟩) (xs.take (i * 2) ++ x ++ xs.drop (i * 2)) w) := by
  obtain ⟨i0, J0, J1, J2, J3⟩ := info_parts InsertRw_info
  obtain ⟨cur, hg, hbg, _, hcm, hcs, _⟩ := own_cur hown
  have hlt := (hown.lt g rfl).2
  unfold maxLen at hcm
  have hnews : ∀ j u, x[j]? = some u → w.cell? ((⟨vb, 0, none⟩ : Addr).add j) = some u := fun j u hu => by
    rw [Addr.add_mid, Nat.zero_add, cell_of_row w vb j _ _ _ hvb]
    simpa using hu
  have hxl : xs.length = n * 2 := hown.1
  have hdl : (xs.drop (i * 2)).length = (n - i) * 2 := drop_len hxl (by omega)
  have hov : ∀ lb cb, (callFunc 90 #[.slice (some ⟨vb, 0, none⟩) 1 1, .slice (some ⟨g, (i + 1) * 2, none⟩) lb cb]).run Tryz.prog w = .ok (.value (.bool false)) w := fun lb cb => by
    rw [run_callFunc_extern Tryz.func90 (by kernel_rfl) (by kernel_rfl) (by kernel_rfl) (e := Extern.SlicesOverlaps.overlaps #[32, 32] #[4]) (by kernel_rfl),
      Lib.run_overlaps_apart w 32 4 54 Tryz.underlying32 2 Tryz.sizeOf54 ⟨vb, 0, none⟩ ⟨g, (i + 1) * 2, none⟩ 1 1 lb cb hne 54 54 x.length cur.size (by simp [World.shape?, hvb]) (by simp [World.shape?, hg]) (by omega) (frozen_of_row w vb 0 _ _ hvb) (frozen_of_row w vb x.length _ _ hvb)]
    rfl
  have u1 := own_up hown i hi hroom
  have g1 := setCells_grown g (xs.drop (i * 2)) ((i + 1) * 2) w
  have hcp1 : ∀ ty dc sc, (Builtin.copy_ #[32, 32] ty #[.slice (some ⟨g, (i + 1) * 2, none⟩) (n - i) dc, .slice (some ⟨g, i * 2, none⟩) (n + 1 - i) sc]).run Tryz.prog w.drew = .ok (.int .i64 ((n - i : Nat) : Int)) (w.drew.setCells g ((i + 1) * 2) (xs.drop (i * 2))) := fun ty dc sc =>
    own_copyK (w := w.drew) hown 32 32 ty i0 (n - i) (i + 1) (n - i) dc ⟨g, i * 2, none⟩ (n + 1 - i) sc _ Tryz.underlying32 J0 J2 (Nat.min_eq_right (by omega)) hdl (fun j v hj => own_tail hown i j v hj) (by omega) (fun v hv => h1 v (List.mem_of_mem_drop hv))
  obtain ⟨W1, hW1⟩ : ∃ W1, W1 = w.drew.setCells g ((i + 1) * 2) (xs.drop (i * 2)) := ⟨_, rfl⟩
  have hW1o : W1.ownsRow base 54 2 (.slice (some ⟨g, 0, none⟩) (n + 1) c) (n + 1) (xs.take ((i + 1) * 2) ++ xs.drop (i * 2)) := by rw [hW1]; exact own_up (w := w.drew) hown i hi hroom
  have hW1g : w.grownBy W1 (some g) := by
    rw [hW1]
    have := setCells_grown g (xs.drop (i * 2)) ((i + 1) * 2) w.drew
    exact ⟨this.os, this.tape, this.output, this.size, this.block⟩
  have hvb1 : W1.heap[vb]? = some (.cells x.toArray 54 (0, 0)) := by
    have hb := (Array.getElem?_eq_some_iff.1 hvb).1
    rw [hW1g.block vb hb (fun e => by injection e with e; omega)]; exact hvb
  have hcp2 : ∀ ty dc, (Builtin.copy_ #[32, 32] ty #[.slice (some ⟨g, i * 2, none⟩) (n + 1 - i) dc, .slice (some ⟨vb, 0, none⟩) 1 1]).run Tryz.prog W1 = .ok (.int .i64 ((1 : Nat) : Int)) (W1.setCells g (i * 2) x) := fun ty dc =>
    own_copyK hW1o 32 32 ty i0 1 i (n + 1 - i) dc ⟨vb, 0, none⟩ 1 1 _ Tryz.underlying32 J0 J2 (Nat.min_eq_left (by omega)) (by omega) (fun j v hj => by
      rw [Addr.add_mid, Nat.zero_add, cell_of_row W1 vb j _ _ _ hvb1]
      simpa using hj) (by omega) h1x
  have hW2 := own_put hW1o i (by omega) hx
  have hys : (xs.take ((i + 1) * 2) ++ xs.drop (i * 2)).take (i * 2) ++ x ++ (xs.take ((i + 1) * 2) ++ xs.drop (i * 2)).drop ((i + 1) * 2) = xs.take (i * 2) ++ x ++ xs.drop (i * 2) := by
    have l1 : (xs.take ((i + 1) * 2)).length = (i + 1) * 2 := by rw [List.length_take, hxl]; omega
    rw [List.take_append_of_le_length (by omega), List.take_take, Nat.min_eq_left (by omega), List.drop_append_of_le_length (by omega), List.drop_of_length_le (by omega), List.nil_append]
  rw [hys] at hW2
  have hW2g := grown_trans hW1g (setCells_grown g x (i * 2) W1)
  have HF : Hid (InsertRwP base n c (some ⟨g, 0, none⟩) (xs.take (i * 2) ++ x ++ xs.drop (i * 2)) w (.returned (.slice (some ⟨g, 0, none⟩) (n + 1) c)) (W1.setCells g (i * 2) x)) :=
    Lib.hid ⟨g, c, rfl, hW2, hW2g, .inl rfl, (hW2.lt g rfl).2⟩
  rw [← hW1] at hcp1
  clear hW2 hW2g hys hW1o hW1g hW1 hvb1 u1 g1 hnews hown h1 h1x hvb hg hdl hxl
  generalize xs.take (i * 2) ++ x ++ xs.drop (i * 2) = ys at *
  generalize xs.drop (i * 2) = zs at *
  have hb4 : ¬ (c = i) := by omega
  have hb5 : ¬ (c = i + 1) := by omega
  have hw1 : IntKind.i64.wrap ((i : Int) + 1) = (i : Int) + 1 := IntWalk.i64_in _ (by omega)
  have htn : ((i : Int) + 1).toNat = i + 1 := by omega
  have hni : n + 1 - (i + 1) = n - i := by omega
  have h0i : (0 : Int) ≤ (i : Int) + 1 := by omega
  have hin : (i : Int) + 1 ≤ (n : Int) + 1 := by omega
  have hin2 : (i : Int) ≤ (n : Int) + 1 := by omega
  go_enter Tryz.func68, Tryz.ntmps68
  go_wp2_with (simp only [hov])
  go_region_law (refine step_copyK rfl _ _ 32 32 rfl _ _ (by simp [Act.eval, Act.put]) (by simp [Act.eval, Act.put]) (hcp1 _ _ _) ?_)
  go_wp2_with (at_builtin; refine wpList_copyK _ rfl _ _ 32 32 rfl _ _ rfl rfl (hcp2 _ _) ?_)
  go_ret
  exact HF.out

set_option maxRecDepth 100000 in
set_option maxHeartbeats 4000000 in
theorem InsertRw_grow (base g n i vb : Nat) (xs x : List Value) (w : World) (hown : w.ownsRow base 54 2 (.slice (some ⟨g, 0, none⟩) n n) n xs) (h1 : ∀ u ∈ xs, u.oneCell' = true) (hx : x.length = 2) (h1x : ∀ u ∈ x, u.oneCell' = true)
    (hvb : w.heap[vb]? = some (.cells x.toArray 54 (0, 0))) (hi : i < n) (hn : n + 1 ≤ 1000000) (hbase : base ≤ w.heap.size) :
    Calls Tryz.prog 68 #[.slice (some ⟨g, 0, none⟩) n n, .int .i64 (i : Int), .slice (some ⟨vb, 0, none⟩) 1 1] w (InsertRwP base n n (some ⟨g, 0, none⟩) (xs.take (i * 2) ++ x ++ xs.drop (i * 2)) w) := by
  obtain ⟨i0, J0, J1, J2, J3⟩ := info_parts InsertRw_info
  have hlt := (hown.lt g rfl).2
  have hvlt := (Array.getElem?_eq_some_iff.1 hvb).1
  have hxl : xs.length = n * 2 := hown.1
  have hdl : (xs.drop (i * 2)).length = (n - i) * 2 := drop_len hxl (by omega)
  have htl : (xs.take (i * 2)).length = i * 2 := by rw [List.length_take, hxl]; omega
  have hold : (Builtin.firstCells i0.size i (.slice (some ⟨g, 0, none⟩) i n)).run Tryz.prog w.drew = .ok (xs.take (i * 2)).toArray w.drew := by
    rw [J2]
    exact run_firstCells_some w.drew 2 i ⟨g, 0, none⟩ i n (xs.take (i * 2)) htl (fun j v hj => by
      rw [List.getElem?_take] at hj
      split at hj
      · exact hown.cells (g := g) rfl j v hj
      · cases hj)
  have hik : i + (n + 1 - i) = n + 1 := by omega
  have hkk : (n : Int) + 1 - (i : Int) = ((n + 1 - i : Nat) : Int) := by omega
  obtain ⟨zc, hzc⟩ : ∃ zc : List Value, zc = (Builtin.zeroCells (Value.cells (.agg #[.string ByteArray.empty, .string ByteArray.empty])) (n + 1 - i)).toList := ⟨_, rfl⟩
  have hzl : zc.length = (n + 1 - i) * 2 := by rw [hzc]; simp [Builtin.zeroCells, Value.cells]
  obtain ⟨G, hG⟩ : ∃ G, G = grownCap w (n + 1) n 54 := ⟨_, rfl⟩
  have hGn : n + 1 ≤ G := by rw [hG]; exact grownCap_ge w _ _ _
  have hGm : G ≤ maxLen := by rw [hG]; exact grownCap_le_maxLen w _ _ _ (by simp only [maxLen]; omega)
  obtain ⟨W1, hW1⟩ : ∃ W1, W1 = w.drew.alloc (.cells ((xs.take (i * 2)).toArray ++ Builtin.zeroCells (Value.cells (.agg #[.string ByteArray.empty, .string ByteArray.empty])) (n + 1 - i) ++ Builtin.zeroCells (Value.cells (.agg #[.string ByteArray.empty, .string ByteArray.empty])) (G - (n + 1))) 54) := ⟨_, rfl⟩
  have hrz : ∀ ty, (Builtin.append_ #[32, 3] ty #[.slice (some ⟨g, 0, none⟩) i n, .int .i64 ((n : Int) + 1 - (i : Int))]).run Tryz.prog w = .ok (.slice (some ⟨w.heap.size, 0, none⟩) (n + 1) G) W1 := fun ty => by
    have h := Lib.run_append_grow_zeros w 32 3 ty 54 i0 _ .i64 .i64 Tryz.underlying32 Tryz.underlying3 J0 J1 (some ⟨g, 0, none⟩) i n (xs.take (i * 2)) hold (n + 1 - i) (by omega) (by omega) (by omega) (by omega) (by rw [J3]; omega) (by rw [J3, hik]; exact growslice_fits (by omega) (by omega))
    rw [hik, ← hG, ← hW1] at h
    rw [hkk]
    exact h
  have hy1 : (xs.take (i * 2) ++ zc).length = (n + 1) * 2 := by rw [List.length_append, htl, hzl, ← Nat.add_mul, hik]
  have hW1o : W1.ownsRow base 54 2 (.slice (some ⟨w.heap.size, 0, none⟩) (n + 1) G) (n + 1) (xs.take (i * 2) ++ zc) := by
    rw [hW1]
    refine own_new (w := w.drew) hbase hGn hGm ?_ hy1 ?_
    · have e1 : i * 2 + (n + 1 - i) * 2 = (n + 1) * 2 := by rw [← Nat.add_mul, hik]
      simp [Builtin.zeroCells, Value.cells, hxl]
      omega
    · rw [Array.toList_append, Array.toList_append, List.toList_toArray, ← hzc, List.take_append_of_le_length (by rw [hy1]; omega), List.take_of_length_le (by rw [hy1]; omega)]
  have hW1g : w.grownBy W1 (some g) := by
    rw [hW1]
    exact ⟨rfl, rfl, rfl, by simp, fun k hk _ => Below.heap_alloc w.drew _ k hk⟩
  have hvb1 : W1.heap[vb]? = some (.cells x.toArray 54 (0, 0)) := by rw [hW1]; exact (Below.heap_alloc w.drew _ vb hvlt).trans hvb
  have hg1 : W1.heap[g]? = w.heap[g]? := by rw [hW1]; exact Below.heap_alloc w.drew _ g hlt
  have hcp1 : ∀ ty dc, (Builtin.copy_ #[32, 32] ty #[.slice (some ⟨w.heap.size, i * 2, none⟩) (n + 1 - i) dc, .slice (some ⟨vb, 0, none⟩) 1 1]).run Tryz.prog W1 = .ok (.int .i64 ((1 : Nat) : Int)) (W1.setCells w.heap.size (i * 2) x) := fun ty dc =>
    own_copyK hW1o 32 32 ty i0 1 i (n + 1 - i) dc ⟨vb, 0, none⟩ 1 1 _ Tryz.underlying32 J0 J2 (Nat.min_eq_left (by omega)) (by omega) (fun j v hj => by
      rw [Addr.add_mid, Nat.zero_add, cell_of_row W1 vb j _ _ _ hvb1]
      simpa using hj) (by omega) h1x
  have hW2o := own_put hW1o i (by omega) hx
  have hW2g := setCells_grown w.heap.size x (i * 2) W1
  obtain ⟨W2, hW2⟩ : ∃ W2, W2 = W1.setCells w.heap.size (i * 2) x := ⟨_, rfl⟩
  rw [← hW2] at hcp1 hW2o hW2g
  have hg2 : W2.heap[g]? = w.heap[g]? := (hW2g.block g (by have := hW1g.size; omega) (fun e => by injection e with e; omega)).trans hg1
  have hcp2 : ∀ ty dc sc, (Builtin.copy_ #[32, 32] ty #[.slice (some ⟨w.heap.size, (i + 1) * 2, none⟩) (n - i) dc, .slice (some ⟨g, i * 2, none⟩) (n - i) sc]).run Tryz.prog W2.drew = .ok (.int .i64 ((n - i : Nat) : Int)) (W2.drew.setCells w.heap.size ((i + 1) * 2) (xs.drop (i * 2))) := fun ty dc sc =>
    own_copyK (w := W2.drew) hW2o 32 32 ty i0 (n - i) (i + 1) (n - i) dc ⟨g, i * 2, none⟩ (n - i) sc _ Tryz.underlying32 J0 J2 (Nat.min_self _) hdl (fun j v hj => by
      have h := own_tail hown i j v hj
      rw [Addr.add_mid] at h ⊢
      exact (World.cell?_of_block (a := ⟨g, i * 2 + j, none⟩) hg2).trans h) (by omega) (fun v hv => h1 v (List.mem_of_mem_drop hv))
  have hW3o := own_tailput (w := W2.drew) hW2o (i + 1) (by omega) (zs := xs.drop (i * 2)) (by rw [hdl]; omega)
  have hys : ((xs.take (i * 2) ++ zc).take (i * 2) ++ x ++ (xs.take (i * 2) ++ zc).drop ((i + 1) * 2)).take ((i + 1) * 2) ++ xs.drop (i * 2) = xs.take (i * 2) ++ x ++ xs.drop (i * 2) := by
    rw [List.take_append_of_le_length (l₂ := zc) (by omega), List.take_take, Nat.min_self, List.take_append_of_le_length (by rw [List.length_append, htl, hx]; omega), List.take_of_length_le (by rw [List.length_append, htl, hx]; omega)]
  rw [hys] at hW3o
  have hW3g := setCells_grown w.heap.size (xs.drop (i * 2)) ((i + 1) * 2) W2.drew
  have hgr : w.grownBy (W2.drew.setCells w.heap.size ((i + 1) * 2) (xs.drop (i * 2))) (some g) := by
    refine ⟨?_, ?_, ?_, ?_, fun k hk hne => ?_⟩
    · exact hW3g.os.trans (hW2g.os.trans hW1g.os)
    · exact hW3g.tape.trans (hW2g.tape.trans hW1g.tape)
    · exact hW3g.output.trans (hW2g.output.trans hW1g.output)
    · exact Nat.le_trans hW1g.size (Nat.le_trans hW2g.size hW3g.size)
    · have a1 : k < W1.heap.size := Nat.lt_of_lt_of_le hk hW1g.size
      have a2 : k < W2.heap.size := Nat.lt_of_lt_of_le a1 hW2g.size
      have a3 : some k ≠ some w.heap.size := fun e => by injection e with e; omega
      exact (hW3g.block k a2 a3).trans ((hW2g.block k a1 a3).trans (hW1g.block k hk hne))
  have HF : Hid (InsertRwP base n n (some ⟨g, 0, none⟩) (xs.take (i * 2) ++ x ++ xs.drop (i * 2)) w (.returned (.slice (some ⟨w.heap.size, 0, none⟩) (n + 1) G)) (W2.drew.setCells w.heap.size ((i + 1) * 2) (xs.drop (i * 2)))) :=
    Lib.hid ⟨w.heap.size, G, rfl, hW3o, hgr, .inr rfl, (hW3o.lt w.heap.size rfl).2⟩
  unfold maxLen at hGm
  clear hW3o hW3g hgr hys hW2o hW2g hg2 hW2 hW1o hW1g hW1 hvb1 hg1 hy1 hG hzl hzc hold hown h1 h1x hvb hdl hxl htl
  generalize xs.take (i * 2) ++ x ++ xs.drop (i * 2) = ys at *
  generalize xs.drop (i * 2) = zs at *
  generalize hNN : w.heap.size = NN at *
  clear hNN
  have hb3 : ¬ (n = i) := by omega
  have hb4 : ¬ (G = i) := by omega
  have hb5 : ¬ (G = i + 1) := by omega
  have hw1 : IntKind.i64.wrap ((i : Int) + 1) = (i : Int) + 1 := IntWalk.i64_in _ (by omega)
  have htn : ((i : Int) + 1).toNat = i + 1 := by omega
  have hni : n + 1 - (i + 1) = n - i := by omega
  have h0i : (0 : Int) ≤ (i : Int) + 1 := by omega
  have hin : (i : Int) + 1 ≤ (n : Int) + 1 := by omega
  have hin1 : (i : Int) ≤ (n : Int) := by omega
  have hin2 : (i : Int) ≤ (n : Int) + 1 := by omega
  clear hkk hik
  go_enter Tryz.func68, Tryz.ntmps68
  go_wp2_with (first
    | (at_builtin; refine wpList_append_runK _ rfl _ _ 32 3 rfl _ _ rfl rfl (hrz _) ?_)
    | (at_builtin; refine wpList_copyK _ rfl _ _ 32 32 rfl _ _ rfl rfl (hcp1 _ _) ?_))
  go_region_law (refine step_copyK rfl _ _ 32 32 rfl _ _ (by simp [Act.eval, Act.put]) (by simp [Act.eval, Act.put]) (hcp2 _ _ _) ?_)
  go_wp2
  go_ret
  exact HF.out

/-- The three roads in one. -/
theorem InsertRw_own (base n c i vb : Nat) (A : Option Addr) (xs x : List Value) (w : World) (hown : w.ownsRow base 54 2 (.slice A n c) n xs) (h1 : ∀ u ∈ xs, u.oneCell' = true) (hx : x.length = 2) (h1x : ∀ u ∈ x, u.oneCell' = true)
    (hvb : w.heap[vb]? = some (.cells x.toArray 54 (0, 0))) (hne : (Value.slice A n c).ownBlock ≠ some vb) (hi : i ≤ n) (hn : n + 1 ≤ 1000000) (hbase : base ≤ w.heap.size) :
    Calls Tryz.prog 68 #[.slice A n c, .int .i64 (i : Int), .slice (some ⟨vb, 0, none⟩) 1 1] w (InsertRwP base n c A (xs.take (i * 2) ++ x ++ xs.drop (i * 2)) w) := by
  have hxl : xs.length = n * 2 := hown.1
  by_cases hin : i = n
  · subst hin
    rw [List.take_of_length_le (by omega), List.drop_of_length_le (by omega), List.append_nil]
    exact InsertRw_end base i c vb A xs x w hown hx h1x hvb hn hbase (own_cap hown) (fun h => own_nil hown h)
  · obtain ⟨g, cap, hv, _, _⟩ := hown.form (by omega)
    have hA : A = some ⟨g, 0, none⟩ := by injection hv
    subst hA
    have hcap := own_cap hown
    by_cases hr : n + 1 ≤ c
    · exact InsertRw_shift base g n c i vb xs x w hown h1 hx h1x hvb (fun e => hne (by rw [e]; rfl)) (by omega) hn hr
    · obtain rfl : c = n := by omega
      exact InsertRw_grow base g c i vb xs x w hown h1 hx h1x hvb (by omega) hn hbase

end Go.Proofs.YtjmdebeffpdpcaaGreatDoor
