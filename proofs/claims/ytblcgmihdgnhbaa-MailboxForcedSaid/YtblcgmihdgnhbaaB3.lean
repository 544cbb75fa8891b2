/- The walk of MailboxOrder. -/
import Derived.RangeFuncFrom
import Derived.Maps.AppendAt
import Derived.Lib.MinMax
import Derived.Test.YtblcgmihdgnhbaaB2
import Derived.Test.YtblcgmihdgnhbaaPl
import Derived.Test.YtblcgmihdgnhbaaA8
import Derived.Test.YtblcgmihdgnhbaaEqI
import Derived.Test.YtblcgmihdgnhbaaMore
namespace Go.Proofs.Ytblcgmihdgnhbaa
open Go.RowKit Go.Shelf

attribute [local go_sem] Oper.semAt_some

theorem All_stops (n : Nat) (hn : 1 ≤ n) (Bn g n0 : Nat) (sz cnt : Int) (vs : Nat → Value) (ls : Nat → List Int) (C : Array Value) (w : World)
    (hB : BoxAt g sz cnt vs ls C w) (hc : w.cell? ⟨Bn, 0, none⟩ = some (.pointer (some ⟨g, 0, none⟩))) (hn0 : n0 ≤ w.heap.size) (hl : ∀ p, p < 8 → (ls p).length ≤ 1000) (hBn : Bn < w.heap.size) :
    SeqStopsK Fence.wide n Try.prog 16 #[.pointer (some ⟨Bn, 0, none⟩)] (fun x : Fin 8 × Int => #[Value.int .i64 ((x.1.val : Nat) : Int), .int .i64 x.2]) (KpM n0) (fun ys => ys = tellM ls 8) (fun _ => True) 10000 w := fun l J Jx W hW hJ _ hY h0 =>
  All1_in n hn l Bn g n0 sz cnt vs ls C J Jx W hJ hY (hB.below hW) ((hW.cell (p := ⟨Bn, 0, none⟩) hBn).trans hc) (Nat.lt_of_lt_of_le hBn hW.size) (Nat.le_trans hn0 hW.size) hl h0

def rowP (x : Fin 8 × Int) : List Value := [.int .i64 ((x.1.val : Nat) : Int), .int .i64 x.2]

theorem pair_info : (Try.prog.info? 39).map (fun i => (i.zero, i.size, i.bytes)) = some (some (.agg #[.int .i64 0, .int .i64 0]), 2, 16) := by kernel_rfl

theorem flat_at : ∀ (l : List (Fin 8 × Int)) (j : Nat) (x : Fin 8 × Int), l[j]? = some x → (l.flatMap rowP)[j * 2]? = some (.int .i64 ((x.1.val : Nat) : Int)) ∧ (l.flatMap rowP)[j * 2 + 1]? = some (.int .i64 x.2)
  | [], j, x, h => by simp at h
  | y :: l, 0, x, h => by
    simp at h
    subst h
    simp [rowP]
  | y :: l, j + 1, x, h => by
    have ih := flat_at l j x (by simpa using h)
    rw [List.flatMap_cons]
    refine ⟨?_, ?_⟩
    · rw [List.getElem?_append_right (by simp [rowP]; omega), show (j + 1) * 2 - (rowP y).length = j * 2 by simp [rowP]; omega]; exact ih.1
    · rw [List.getElem?_append_right (by simp [rowP]; omega), show (j + 1) * 2 + 1 - (rowP y).length = j * 2 + 1 by simp [rowP]; omega]; exact ih.2

/-- From T on every block of W lies as it lay. -/
def HiK (T : Nat) (W wr : World) : Prop := W.heap.size ≤ wr.heap.size ∧ ∀ k, T ≤ k → k < W.heap.size → wr.heap[k]? = W.heap[k]?
theorem HiK.refl (T : Nat) (W : World) : HiK T W W := ⟨Nat.le_refl _, fun _ _ _ => rfl⟩
theorem HiK.below {T : Nat} {W a b : World} (h : HiK T W a) (hb : Below a.heap.size a b) : HiK T W b := ⟨Nat.le_trans h.1 hb.size, fun k hk hw => (hb.block k (by have := h.1; omega)).trans (h.2 k hk hw)⟩
theorem HiK.off {T g : Nat} {W a b : World} {vs : Nat → Value} (h : HiK T W a) (hs : a.heap.size ≤ b.heap.size) (ho : OffBox g vs a b) (hg : g < T) (hv : ∀ q, q < 8 → ∀ k, (vs q).ownBlock = some k → k < T) : HiK T W b :=
  ⟨Nat.le_trans h.1 hs, fun k hk hw => (ho k (by have := h.1; omega) (by omega) (fun q hq e => by have := hv q hq k e; omega)).trans (h.2 k hk hw)⟩
theorem HiK.own {T base n size : Nat} {W a : World} {e : TypeId} {v : Value} {xs : List Value} (h : HiK T W a) (ho : W.ownsRow base e size v n xs) (hb : T ≤ base) : a.ownsRow base e size v n xs := by
  refine ⟨ho.1, ?_⟩
  rcases ho.2 with hn | ⟨g, cap, cur, rfl, hb', hgg, rest⟩
  · exact .inl hn
  · exact .inr ⟨g, cap, cur, rfl, hb', (h.2 g (by omega) (Array.getElem?_eq_some_iff.1 hgg).1).trans hgg, rest⟩

theorem OffBox.cell {g : Nat} {vs : Nat → Value} {w w' : World} (h : OffBox g vs w w') {T b : Nat} (hg : g < T) (hv : ∀ q, q < 8 → ∀ k, (vs q).ownBlock = some k → k < T) (hb : T ≤ b) (hl : b < w.heap.size) (i : Nat) : w'.cell? ⟨b, i, none⟩ = w.cell? ⟨b, i, none⟩ := by
  unfold World.cell?
  rw [h b hl (by omega) (fun q hq e => by have := hv q hq b e; omega)]

theorem eq39 (W : World) (a b : Int) : (Op.equalIn 10000 39 (.agg #[.int .i64 a, .int .i64 b]) (.agg #[.int .i64 a, .int .i64 b])).run Try.prog W = .ok true W := by
  obtain ⟨i3, K0, K1, K2, K3⟩ := info_parts int_info
  have h := run_equal_ints (P := Try.prog) (n := 2) Try.underlying39 K0 (by kernel_rfl) Try.underlying3 (by kernel_rfl) #[.int .i64 a, .int .i64 b] #[.int .i64 a, .int .i64 b] (fun i => if i = 0 then a else b) (fun i => if i = 0 then a else b) W (fun i hi => by
    have : i = 0 ∨ i = 1 := by omega
    rcases this with rfl | rfl <;> exact ⟨rfl, rfl⟩)
  rw [h]
  simp

def frO (size : Int) (A : Option Addr) (n c g T : Nat) (x : Fin 8 × Int) : Act := { tmps := #[.int .i64 size, .slice A n c, undef, undef, .bool false, .pointer (some ⟨g, 0, none⟩), .pointer (some ⟨T, 0, none⟩), .int .i64 ((x.1.val : Nat) : Int), .int .i64 x.2, undef, undef, undef, undef, undef, undef, undef, undef, .int .i64 size, .slice A n c, .pointer (some ⟨g, 0, none⟩), .pointer (some ⟨g, 0, none⟩), .bool false, .bool false, .bool true, .bool false, .bool false, .pointer (some ⟨g, 0, none⟩), .func (.func 16) #[] #[.pointer (some ⟨T + 1, 0, none⟩)], .int .i64 ((x.1.val : Nat) : Int), .int .i64 x.2, undef, undef, undef, undef, undef, undef, undef, undef, undef, undef, undef, undef, undef, undef, undef, undef, undef, undef, undef, undef, undef, undef, undef, undef, undef, undef, undef, undef, undef, undef, undef, undef, undef, undef, undef, undef, undef, undef, undef, undef, undef, undef, undef, undef, undef, undef, undef, undef, undef, undef, undef, undef, undef, undef, undef, undef, undef, undef, undef, undef, undef, undef, undef, undef, undef, undef, undef, undef, undef, undef, undef, undef, undef, undef, undef, undef, undef, undef, undef, undef, undef, undef, undef, undef, undef, undef, undef, undef, undef, undef, undef], defers := [] }

theorem rowP_cell (W : World) (x : Fin 8 × Int) : ∀ j u, (rowP x)[j]? = some u → (W.alloc (.cells #[.int .i64 ((x.1.val : Nat) : Int), .int .i64 x.2] 39 (0, 0))).cell? ((⟨W.heap.size, 0, none⟩ : Addr).add j) = some u := by
  intro j u h
  rw [Addr.add_mid, Nat.zero_add, cell_of_row _ _ _ _ _ _ (heap_alloc_new W _)]
  match j, h with
  | 0, h => simpa [rowP] using h
  | 1, h => simpa [rowP] using h
  | j + 2, h => simp [rowP] at h

/-- The list that the loop collects: its box and its own rows. -/
def Told (T : Nat) (W : World) (l : List (Fin 8 × Int)) : Prop := ∃ v, Boxed W T 35 v ∧ W.ownsRow T 39 2 v l.length (l.flatMap rowP) ∧ True

theorem kpm_append {W w1 : World} {T n0 k : Nat} {v v' : Value} {xs : List Value} {o : Obj} (hrow : W.ownsRow T 39 2 v k xs) (hT : T < n0) (hg : (W.alloc o).grownBy w1 v.ownBlock) : KpM n0 W (w1.setCell ⟨T, 0, none⟩ v') := by
  have hg2 := grown_setCell w1 T 0 v'
  have hs : W.heap.size ≤ w1.heap.size := Nat.le_trans (World.grownBy_alloc W o none).size hg.size
  refine ⟨Nat.le_trans hs hg2.size, fun b C t hb ht hC => ?_⟩
  have hlt := (Array.getElem?_eq_some_iff.1 hC).1
  have h1 : (W.alloc o).heap[b]? = some (.cells C t (0, 0)) := ((World.grownBy_alloc W o none).block b hlt (by simp)).trans hC
  have h2 : w1.heap[b]? = some (.cells C t (0, 0)) := by
    refine (hg.block b (Array.getElem?_eq_some_iff.1 h1).1 (fun e => ?_)).trans h1
    rcases hrow.2 with ⟨rfl, _⟩ | ⟨g, cap, cur, rfl, _, hgb, _⟩
    · simp [Value.ownBlock] at e
    · obtain rfl : b = g := by simpa [Value.ownBlock] using e
      rw [hC] at hgb
      cases hgb
      exact ht rfl
  exact (hg2.block b (Array.getElem?_eq_some_iff.1 h2).1 (fun e => by cases e; omega)).trans h2

set_option maxRecDepth 100000 in
set_option maxHeartbeats 4000000 in
theorem Order_any (size : Int) (A : Option Addr) (n c N s : Nat) (f : Nat → Int) (w : World) (hA : Sl w w.heap.size 1 A n (fun i => [.int .i64 (f i)]))
    (hc : n ≤ c) (hcm : c ≤ maxLen) (hN : N = min n 12) (hs : cutI size 1 12 = (s : Int)) (hs1 : 1 ≤ s) (hs2 : s ≤ 12) :
    Calls Try.prog 4 #[.int .i64 size, .slice A n c] w fun e w' => e = .returned (.bool true) ∧ Below w.heap.size w w' := by
  have HN := Lib.hid hN
  have HCut := Lib.hid hs
  have H0 := Lib.hid (boxOf_any size A n c N s f w hA hc hcm hN hs hs1 hs2)
  obtain ⟨i0, J0, J1, J2, J3⟩ := info_parts pair_info
  clear hA hN hs
  refine (callsIn_wide (n := 10)).1 ?_
  refine callsIn_of_wp_marks Try.func4 rfl trivial ?_ rfl
  simp only [Try.ntmps4, List.size_toArray, List.length_cons, List.length_nil, Nat.reduceAdd, Nat.reduceSub, Array.replicate_succ, Array.replicate_zero, List.push_toArray, List.append_toArray, List.nil_append, List.cons_append]
  refine wpIn_wide.2 ?_
  go_wp2_with (first
    | (go_at_call 12; refine H0.out.mono ?_; rintro e w1 ⟨vs, C, rfl, hB1, hb1⟩)
    | (go_at_call 7; refine (fact_any _).mono ?_; rintro e w2 ⟨rfl, hb2⟩)
    | (go_at_call 13; refine (All_in _ _).mono ?_; rintro e w3 ⟨rfl, rfl⟩))
  have hg1 := hB1.lt
  have hB2 := hB1.below hb2
  obtain ⟨T, hT⟩ : ∃ T, w2.heap.size = T := ⟨_, rfl⟩
  obtain ⟨g, hg⟩ : ∃ g, w.heap.size = g := ⟨_, rfl⟩
  have bT := (Boxed.new w2 35 (.slice none 0 0)).alloc (.cells #[.pointer (some ⟨w.heap.size, 0, none⟩)] 23)
  have bC := Boxed.new (w2.alloc (.cells #[.slice none 0 0] 35)) 23 (.pointer (some ⟨w.heap.size, 0, none⟩))
  have hBel : Below w2.heap.size w2 ((w2.alloc (.cells #[.slice none 0 0] 35)).alloc (.cells #[.pointer (some ⟨w.heap.size, 0, none⟩)] 23)) := ((Below.refl _ _).alloc (Nat.le_refl _) _).alloc (by simp) _
  have hB3 := hB2.below hBel
  have hsz : ((w2.alloc (.cells #[.slice none 0 0] 35)).alloc (.cells #[.pointer (some ⟨w.heap.size, 0, none⟩)] 23)).heap.size = T + 2 := by simp [hT]
  have hgT : w.heap.size < T := by rw [← hT]; exact Nat.lt_of_lt_of_le hg1 hb2.size
  rw [World.size_alloc] at bC
  obtain ⟨W0, hW0⟩ : ∃ W0, (w2.alloc (.cells #[.slice none 0 0] 35)).alloc (.cells #[.pointer (some ⟨w.heap.size, 0, none⟩)] 23) = W0 := ⟨_, rfl⟩
  rw [hW0] at bT bC hBel hB3 hsz ⊢
  rw [hT] at bT bC hBel ⊢
  rw [hg] at bC hB3 hgT hB2 hB1 hg1 hb1 ⊢
  have HTS := Lib.hid hT
  have HGS := Lib.hid hg
  clear hW0 hT hg
  have hls : ∀ p, p < 8 → (lsOf (cq f 7) (min N s) p).length ≤ 1000 := fun p _ => by have := lsOf_len (cq f 7) (min N s) p; omega
  have HB0 := Lib.hid hB2
  clear hB1 hB2 hg1
  refine (wpIn_wide (n := 10)).1 ?_
  refine wpIn_rangeFunc_ownF rfl (by omega) (gf := 16) (lb := #[.pointer (some ⟨T + 1, 0, none⟩)]) rfl trivial (enters_of Try.func16 (by kernel_rfl) rfl)
    (All_stops 9 (by omega) (T + 1) g (T + 2) s (min N s : Nat) vs (lsOf (cq f 7) (min N s)) C W0 hB3 bC.cell (by omega) hls (by omega)) (fun h k => KpM.trans h k) (fun W l o o' _ h hc _ => KpM.putObj W l o o' h hc) (Below.refl _ _) (fun _ => rfl)
    (fun pre W => Told T W pre ∧ Below T w2 W)
    (fun _ _ _ => False)
    (OwnFrom.and (Own.from (holdsRow_own T T 35 39 2 (fun pre : List (Fin 8 × Int) => pre.length) (fun pre => pre.flatMap rowP) (fun _ _ => True)) _) (ownFrom_below (by have := HTS.out; omega) (by omega)))
    (fun _ _ _ _ _ hs _ _ => hs)
    ⟨⟨_, bT, World.ownsRow_nil _ _ _ _, trivial⟩, hBel⟩
    (frO size A n c g T) ?assign ?body ?done ?stop
  case assign =>
    intro l x W K hK
    gi_wp2
    exact hK
  case body =>
    rintro l pre x W ⟨⟨v, hv, hrow, -⟩, hB⟩ hlt
    have hcv := hv.cell
    have hTs := HTS.out
    unfold frO
    gi_wp2_with (gi_at_builtin; refine wpListIn_append_own _ rfl _ _ 35 rfl T 39 i0 _ 2 16 Try.underlying35 J0 J1 J2 J3 rfl (by decide) _ _ _ rfl (hrow.alloc _) ⟨W.heap.size, 0, none⟩ 1 1 (rowP x) rfl rfl (rowP_cell _ _) (by simp [rowP, Value.oneCell']) (by unfold maxLen; omega) (by omega) (by have := hB.size; simp; omega) ?_; intro v' w5 hown' hgrow _; obtain ⟨g', cap', rfl⟩ := ownsRow_succ hown'; obtain ⟨hv1, hv2, hr2, hk2, hb2⟩ := hv.appended (by decide) hrow (by have := hB.size; omega) (Nat.le_refl _) hown' hgrow; have hkp := kpm_append (v' := .slice (some ⟨g', 0, none⟩) (pre.length + 1) cap') (n0 := T + 2) hrow (by omega) hgrow; have hc1 := hv1.cell; have hf1 := hv1.frozen)
    exact ⟨hk2, hkp, ⟨_, hv2, by simpa [rowP] using hr2, trivial⟩, hB.trans hb2⟩
  case done =>
    rintro D ys W hD rfl ⟨⟨v, hv, hrow, -⟩, hB⟩ hK
    have hq : ∀ i, cq f 7 i < 8 := fun i => by have := cutI_bd (n := f i) (lo := 0) (hi := 7) (by omega); unfold cq; omega
    have hTl := tell_lsOf_len (cq f 7) hq (min N s)
    have hTs := tellM_sorted (lsOf_sorted (cq f 7) (min N s)) 8 (by omega)
    have hBW := HB0.out.below (hB.mono (Nat.le_of_eq HTS.out))
    have hown8 : ∀ q, q < 8 → ∀ k, (vs q).ownBlock = some k → k < T := fun q hq k e => by have := ((HB0.out.own q hq).lt k e).2; have := HTS.out; omega
    obtain ⟨m, hm⟩ : ∃ m, min N s = m := ⟨_, rfl⟩
    obtain ⟨Tl, hTL⟩ : ∃ Tl, tellM (lsOf (cq f 7) (min N s)) 8 = Tl := ⟨_, rfl⟩
    obtain ⟨l0, hl0⟩ : ∃ l0, lsOf (cq f 7) (min N s) = l0 := ⟨_, rfl⟩
    have hmn : m = min n s := by have := HN.out; omega
    have hm12 : m ≤ 12 := by omega
    rw [hTL] at hrow hTl hTs
    rw [hl0] at hTL hBW
    rw [hm] at hTl hBW
    rw [hTl] at hrow
    obtain ⟨A', c', rfl⟩ := own_shape hrow
    have hcv := hv.cell
    have hbg : Below g w W := (hb1.trans (hb2.mono (by have := hb1.size; have := HGS.out; omega))).trans (hB.mono (by omega))
    have HTl := Lib.hid hTl
    have HTs := Lib.hid hTs
    have HTL := Lib.hid hTL
    have HBW := Lib.hid hBW
    have HV := Lib.hid hv
    have HR := Lib.hid hrow
    have HK := Lib.hid hK
    have hDT : T ≤ D := by omega
    have hDW := (Array.getElem?_eq_some_iff.1 hK).1
    have hsW : T + 2 ≤ W.heap.size := by have := (Array.getElem?_eq_some_iff.1 hK).1; omega
    have hmin : ((m : Int) != min (n : Int) (s : Int)) = false := by
      rw [show min (n : Int) (s : Int) = (m : Int) by omega]; simp
    clear hTl hTs hTL hBW hm hl0 hmn hD hv hrow hK hq hls hb1 hb2 hBel hB3 bC bT hB hsz
    unfold maxLen at hcm
    go_wp2
    go_quiet ((first | (go_at_call 10; exact Calls.quiet_of_same ((Count_any (HBW.out.drewN _)).mono fun _ _ h => ⟨h.1, h.2.symm⟩)) | (go_at_call 9; exact Calls.quiet_of_same ((Cut_any _ _ _ _ (by omega) (by omega) (by omega)).mono fun _ _ h => ⟨h.1.trans (by rw [HCut.out]), h.2.symm⟩))))
    go_wp2
    go_loopw [53] (fun k wr => ∃ (j : Nat) (vs' : Nat → Value) (ls' : Nat → List Int) (C' : Array Value), j ≤ m ∧ k = .int .i64 (j : Int) ∧ BoxAt g s ((m : Int) - j) vs' ls' C' wr ∧ tellM ls' 8 = Tl.drop j ∧
      (∀ q, q < 8 → ∀ k, (vs' q).ownBlock = some k → k < T) ∧ HiK T W wr ∧ Below g w wr) (fun k _ => m - (intOf k).toNat)
    case atStart =>
      exact ⟨0, vs, l0, C, by omega, rfl, by simpa using HBW.out.drewN _, by rw [List.drop_zero]; exact HTL.out, hown8, ⟨Nat.le_refl _, fun _ _ _ => rfl⟩, below_drewN hbg _⟩
    case round =>
      obtain ⟨j, vs', ls', C', hj, rfl, hBr, hTr, hor, hHi, hbr⟩ := hrel
      have HBr := Lib.hid hBr
      have HTr := Lib.hid hTr
      have HOr := Lib.hid hor
      have HHi := Lib.hid hHi
      have hrowr := hHi.own HR.out (Nat.le_refl _)
      have ctr : wr.cell? ⟨T, 0, none⟩ = some (.slice A' m c') := by
        have h1 : wr.heap[T]? = W.heap[T]? := hHi.2 T (Nat.le_refl _) (by omega)
        exact (cell_of_row _ _ _ _ _ _ (h1.trans HV.out))
      have hsr : T + 2 ≤ wr.heap.size := by have := hHi.1; omega
      clear hBr hTr hor hHi hcv hbg
      by_cases hlt : j < m
      · obtain ⟨b, capb, hvb, hbT, hbl⟩ := hrowr.form (by omega)
        have hA : A' = some ⟨b, 0, none⟩ := by injection hvb
        subst hA
        have hjT : j < Tl.length := by have := HTl.out; omega
        obtain ⟨r, hr1, hr2, hr3⟩ := tell_step HTr.out hjT
        obtain ⟨fa, fb⟩ := flat_at Tl j Tl[j] (List.getElem?_eq_getElem hjT)
        have e0 := hrowr.cells (g := b) rfl (j * 2) _ fa
        have e1 := hrowr.cells (g := b) rfl (j * 2 + 1) _ fb
        rw [Addr.add_mid, Nat.zero_add] at e0 e1
        have hr2' := Lib.hid hr2
        have hr3' := Lib.hid hr3
        have hprev : ∀ i, i + 1 = j → ∃ pi vi, wr.cell? ⟨b, i * 2, none⟩ = some (.int .i64 ((pi : Nat) : Int)) ∧ wr.cell? ⟨b, i * 2 + 1, none⟩ = some (.int .i64 vi) ∧ (Tl[j].1.val < pi ∨ (pi = Tl[j].1.val ∧ vi < Tl[j].2)) := by
          intro i hi
          have hiT : i < Tl.length := by omega
          obtain ⟨ga, gb⟩ := flat_at Tl i Tl[i] (List.getElem?_eq_getElem hiT)
          have h0 := hrowr.cells (g := b) rfl (i * 2) _ ga
          have h1 := hrowr.cells (g := b) rfl (i * 2 + 1) _ gb
          rw [Addr.add_mid, Nat.zero_add] at h0 h1
          refine ⟨_, _, h0, h1, ?_⟩
          have hp := List.pairwise_iff_getElem.1 HTs.out i j hiT hjT (by omega)
          exact hp
        have HP := Lib.hid hprev
        have hp8 := Tl[j].1.isLt
        obtain ⟨pj, hpj⟩ : ∃ pj, Tl[j].1.val = pj := ⟨_, rfl⟩
        obtain ⟨vj, hvj⟩ : ∃ vj, Tl[j].2 = vj := ⟨_, rfl⟩
        rw [hpj, hvj] at hr1
        rw [hpj] at e0 hr2' hr3' hp8
        rw [hvj] at e1
        have HP' : Hid (∀ i, i + 1 = j → ∃ pi vi, wr.cell? ⟨b, i * 2, none⟩ = some (.int .i64 ((pi : Nat) : Int)) ∧ wr.cell? ⟨b, i * 2 + 1, none⟩ = some (.int .i64 vi) ∧ (pj < pi ∨ (pi = pj ∧ vi < vj))) := Lib.hid (by rw [hpj, hvj] at hprev; exact hprev)
        have hrl : r.length ≤ 1000 := by
          have h1 := tellM_upd_len (ls := ls') hp8 [] 8 (by omega)
          rw [if_pos (by omega), if_pos (by omega), HTr.out, hr1] at h1
          have h2 := HTl.out
          simp only [List.length_cons, List.length_nil, List.length_drop] at h1
          omega
        have hG := fun W5 (hb : Below wr.heap.size wr W5) => Get_fr (HBr.out.below hb) pj vj r hp8 hr1 hr2'.out (by omega) (by omega) hrl
        have HG := Lib.hid hG
        clear hpj hvj hprev HP hr1 hr2 hr3 hG fa fb hrowr hvb
        have hj0 : (0 : Int) ≤ (j : Int) := by omega
        have hjm : (j : Int) < (m : Int) := by omega
        have hjw : IntKind.i64.wrap ((j : Int) + 1) = (j : Int) + 1 := IntWalk.i64_in _ (by omega)
        have hbn : Below wr.heap.size wr (wr.alloc (.cells #[.int .i64 ((pj : Nat) : Int), .int .i64 vj] 39)) := (Below.refl _ _).alloc (Nat.le_refl _) _
        have HGW := Lib.hid (HG.out _ hbn)
        have hwn := heap_alloc_new wr (.cells #[.int .i64 ((pj : Nat) : Int), .int .i64 vj] 39)
        have q0 := cell_of_row _ _ 0 _ _ _ hwn
        have q1 := cell_of_row _ _ 1 _ _ _ hwn
        have Q0 := Lib.hid q0
        have Q1 := Lib.hid q1
        have hsn : (wr.alloc (.cells #[.int .i64 ((pj : Nat) : Int), .int .i64 vj] 39)).heap.size = wr.heap.size + 1 := World.size_alloc _ _
        have HSN := Lib.hid hsn
        clear q0 q1 hwn hsn HG
        have hEq := fun W => eq39 W ((pj : Nat) : Int) vj
        by_cases hz : j = 0
        · have hz0 : decide (0 < j) = false := by simp; omega
          have HZ := Lib.hid hz
          clear hz
          go_wp2_with (go_at_call 11; refine HGW.out.mono ?_; rintro e w6 ⟨vs6, C6, rfl, hB6, hb6, ho6, hv6⟩; have x0 := (ho6.cell hgT HOr.out (by omega) (by have := HSN.out; omega) 0).trans Q0.out; have x1 := (ho6.cell hgT HOr.out (by omega) (by have := HSN.out; omega) 1).trans Q1.out; have H6 := Lib.hid (And.intro hB6 (And.intro hb6 (And.intro ho6 hv6))); clear hB6 hb6 ho6 hv6)
          go_roundw
          case rel =>
            refine ⟨j + 1, vs6, upd ls' pj r, C6, by omega, by go_num, ?_, hr3'.out, fun q hq k e => HOr.out q hq k (by rw [← H6.out.2.2.2 q hq]; exact e), (HHi.out.below hbn).off H6.out.2.1.size H6.out.2.2.1 hgT HOr.out, (hbr.trans (hbn.mono (by omega))).trans H6.out.2.1⟩
            have hB6 := H6.out.1
            rw [show (m : Int) - (j : Int) - 1 = (m : Int) - ((j + 1 : Nat) : Int) by omega] at hB6
            exact hB6
          case measure => simp [intOf]; omega
        · obtain ⟨i, hi⟩ : ∃ i, i + 1 = j := ⟨j - 1, by omega⟩
          obtain ⟨pi, vi, y0, y1, hor⟩ := HP'.out i hi
          have hz0 : decide (0 < j) = true := by simp; omega
          have hji : (j : Int) - 1 = (i : Int) := by omega
          have hiw : IntKind.i64.wrap (i : Int) = (i : Int) := IntWalk.i64_in _ (by omega)
          have hi0 : (0 : Int) ≤ (i : Int) := by omega
          have him : (i : Int) < (m : Int) := by omega
          clear hz hi
          rcases hor with h | ⟨h1, h2⟩
          · have t1 : decide (pi < pj) = false := by simp; omega
            have t2 : ((pj : Int) == (pi : Int)) = false := by simp; omega
            clear h
            go_wp2_with (go_at_call 11; refine HGW.out.mono ?_; rintro e w6 ⟨vs6, C6, rfl, hB6, hb6, ho6, hv6⟩; have x0 := (ho6.cell hgT HOr.out (by omega) (by have := HSN.out; omega) 0).trans Q0.out; have x1 := (ho6.cell hgT HOr.out (by omega) (by have := HSN.out; omega) 1).trans Q1.out; have x2 := (ho6.cell hgT HOr.out (Nat.le_refl _) (by have := HSN.out; omega) 0).trans ((hbn.cell (p := ⟨T, 0, none⟩) (by show T < wr.heap.size; omega)).trans ctr); have x3 := (ho6.cell hgT HOr.out hbT (by have := HSN.out; omega) (i * 2)).trans ((hbn.cell (p := ⟨b, i * 2, none⟩) hbl).trans y0); have x4 := (ho6.cell hgT HOr.out hbT (by have := HSN.out; omega) (i * 2 + 1)).trans ((hbn.cell (p := ⟨b, i * 2 + 1, none⟩) hbl).trans y1); have H6 := Lib.hid (And.intro hB6 (And.intro hb6 (And.intro ho6 hv6))); clear hB6 hb6 ho6 hv6)
            go_roundw
            case rel =>
              refine ⟨j + 1, vs6, upd ls' pj r, C6, by omega, by go_num, ?_, hr3'.out, fun q hq k e => HOr.out q hq k (by rw [← H6.out.2.2.2 q hq]; exact e), (HHi.out.below hbn).off H6.out.2.1.size H6.out.2.2.1 hgT HOr.out, (hbr.trans (hbn.mono (by omega))).trans H6.out.2.1⟩
              have hB6 := H6.out.1
              rw [show (m : Int) - (j : Int) - 1 = (m : Int) - ((j + 1 : Nat) : Int) by omega] at hB6
              exact hB6
            case measure => simp [intOf]; omega
          · obtain rfl : pj = pi := h1.symm
            have t2 : decide (vj ≤ vi) = false := by simp; omega
            clear h2
            go_wp2_with (go_at_call 11; refine HGW.out.mono ?_; rintro e w6 ⟨vs6, C6, rfl, hB6, hb6, ho6, hv6⟩; have x0 := (ho6.cell hgT HOr.out (by omega) (by have := HSN.out; omega) 0).trans Q0.out; have x1 := (ho6.cell hgT HOr.out (by omega) (by have := HSN.out; omega) 1).trans Q1.out; have x2 := (ho6.cell hgT HOr.out (Nat.le_refl _) (by have := HSN.out; omega) 0).trans ((hbn.cell (p := ⟨T, 0, none⟩) (by show T < wr.heap.size; omega)).trans ctr); have x3 := (ho6.cell hgT HOr.out hbT (by have := HSN.out; omega) (i * 2)).trans ((hbn.cell (p := ⟨b, i * 2, none⟩) hbl).trans y0); have x4 := (ho6.cell hgT HOr.out hbT (by have := HSN.out; omega) (i * 2 + 1)).trans ((hbn.cell (p := ⟨b, i * 2 + 1, none⟩) hbl).trans y1); have H6 := Lib.hid (And.intro hB6 (And.intro hb6 (And.intro ho6 hv6))); clear hB6 hb6 ho6 hv6)
            go_roundw
            case rel =>
              refine ⟨j + 1, vs6, upd ls' pj r, C6, by omega, by go_num, ?_, hr3'.out, fun q hq k e => HOr.out q hq k (by rw [← H6.out.2.2.2 q hq]; exact e), (HHi.out.below hbn).off H6.out.2.1.size H6.out.2.2.1 hgT HOr.out, (hbr.trans (hbn.mono (by omega))).trans H6.out.2.1⟩
              have hB6 := H6.out.1
              rw [show (m : Int) - (j : Int) - 1 = (m : Int) - ((j + 1 : Nat) : Int) by omega] at hB6
              exact hB6
            case measure => simp [intOf]; omega
      · obtain rfl : m = j := by omega
        have hnil : tellM ls' 8 = [] := by rw [HTr.out]; exact List.drop_eq_nil_of_le (by have := HTl.out; omega)
        have he := tellM_nil 8 (by omega) hnil
        have HGN := Lib.hid (Get_none HBr.out (fun q hq => he q (by omega) hq))
        have hCn := Count_any HBr.out
        rw [show (m : Int) - (m : Int) = 0 by omega] at hCn
        have HCN := Lib.hid hCn
        have HKr : Hid (wr.heap[D]? = some (.deferred (some []))) := Lib.hid ((HHi.out.2 D hDT hDW).trans HK.out)
        clear hnil he hCn hrowr
        go_wp2_with (first
          | (go_at_call 11; refine HGN.out.mono ?_; rintro e w6 ⟨rfl, rfl⟩)
          | (go_at_call 10; refine HCN.out.mono ?_; rintro e w7 ⟨rfl, rfl⟩))
        refine ⟨by simp, .inl ⟨_, _, rfl, run_takeDeferred HKr.out, ?_⟩⟩
        refine ⟨_, results_tmp rfl _ _ _, rfl, ?_⟩
        rw [HGS.out]
        exact hbr.trans (belowK_b (n₀ := g) (w := w) (Nat.le_of_eq HGS.out.symm) wr D _ _ (by have := HGS.out; omega) HKr.out rfl rfl)
  case stop =>
    rintro D c pre W _ _ h _
    exact h.elim
end Go.Proofs.Ytblcgmihdgnhbaa
