/- Package strip: the walk of StripChanged. -/
import Derived.Test.YtadhkncilokdjaaDoorA9
namespace Go.Proofs.YtadhkncilokdjaaDoor
open Go.RowKit
open Go.Lib hiding intOf

def Dist (l : List Va) : Prop := ∀ i j, i < l.length → j < l.length → l[i]!.1.c = l[j]!.1.c → i = j
theorem map_at (l : List Va) {i : Nat} (hi : i < l.length) : (l.map (fun z : Va => z.1))[i]! = l[i]!.1 := by
  rw [getElem!_pos _ i (by simpa using hi), getElem!_pos l i hi, List.getElem_map]
theorem idx_cases (l : List Va) (s : ByteArray) : (∃ j, j < l.length ∧ idx (l.map (·.1)) s = (j : Int) ∧ l[j]!.1.c = s) ∨ (idx (l.map (·.1)) s = -1 ∧ ∀ i, i < l.length → l[i]!.1.c ≠ s) := by
  by_cases h : ∃ j, j < l.length ∧ l[j]!.1.c = s
  · left
    have : ∀ n, (∃ j, j < n ∧ j < l.length ∧ l[j]!.1.c = s) → ∃ j, j < l.length ∧ l[j]!.1.c = s ∧ ∀ i, i < j → l[i]!.1.c ≠ s := by
      intro n
      induction n with
      | zero => rintro ⟨j, hj, _⟩; omega
      | succ n ih =>
        rintro ⟨j, hj, h1, h2⟩
        by_cases e : ∃ j, j < n ∧ j < l.length ∧ l[j]!.1.c = s
        · exact ih e
        · have : j = n := by
            rcases Nat.lt_or_ge j n with h' | h'
            · exact absurd ⟨j, h', h1, h2⟩ e
            · omega
          subst this
          exact ⟨j, h1, h2, fun i hi hc => e ⟨i, hi, by omega, hc⟩⟩
    obtain ⟨j, h1, h2⟩ := h
    obtain ⟨j, a, b, c⟩ := this (j + 1) ⟨j, by omega, h1, h2⟩
    refine ⟨j, a, idx_yes (by rw [List.length_map]; exact a) (by rw [map_at l a]; exact b) (fun i hi => by rw [map_at l (by omega)]; exact c i hi), b⟩
  · right
    refine ⟨idx_no fun i hi => ?_, fun i hi hc => h ⟨i, hi, hc⟩⟩
    rw [List.length_map] at hi
    rw [map_at l hi]
    exact fun hc => h ⟨i, hi, hc⟩
theorem idx_dist {l : List Va} (hd : Dist l) {j : Nat} (hj : j < l.length) {s : ByteArray} (hs : l[j]!.1.c = s) : idx (l.map (·.1)) s = (j : Int) := by
  rcases idx_cases l s with ⟨i, h1, h2, h3⟩ | ⟨_, h⟩
  · rw [h2, hd i j h1 hj (h3.trans hs.symm)]
  · exact absurd hs (h j hj)
theorem dist_snoc {l : List Va} (hd : Dist l) {x : Va} (hx : ∀ i, i < l.length → l[i]!.1.c ≠ x.1.c) : Dist (l ++ [x]) := by
  have hA : ∀ i, i < l.length → (l ++ [x])[i]! = l[i]! := fun i hi => by
    rw [getElem!_pos _ i (by rw [List.length_append]; omega), getElem!_pos l i hi, List.getElem_append_left hi]
  have hB : (l ++ [x])[l.length]! = x := by
    rw [getElem!_pos _ l.length (by rw [List.length_append]; simp)]; simp
  intro i j hi hj h
  rw [List.length_append, List.length_singleton] at hi hj
  by_cases e1 : i = l.length
  · by_cases e2 : j = l.length
    · omega
    · subst e1
      rw [hB, hA j (by omega)] at h
      exact absurd h.symm (hx j (by omega))
  · by_cases e2 : j = l.length
    · subst e2
      rw [hB, hA i (by omega)] at h
      exact absurd h (hx i (by omega))
    · rw [hA i (by omega), hA j (by omega)] at h
      exact hd i j (by omega) (by omega) h
theorem set_calls {l : List Va} {i : Nat} {x : Va} (_hi : i < l.length) (hx : l[i]!.1.c = x.1.c) (j : Nat) (hj : j < l.length) : (l.set i x)[j]!.1.c = l[j]!.1.c ∧ (l.set i x)[j]! = if i = j then x else l[j]! := by
  have h : (l.set i x)[j]! = if i = j then x else l[j]! := by
    rw [getElem!_pos _ j (by rw [List.length_set]; exact hj), List.getElem_set, getElem!_pos l j hj]
  refine ⟨?_, h⟩
  rw [h]
  by_cases e : i = j
  · subst e; rw [if_pos rfl, hx]
  · rw [if_neg e]

/-- The board is kept where another row grows. -/
theorem BdV.grown {g c : Nat} {A : Option Addr} {l : List Va} {W W' : World} {v : Value} {base n size : Nat} {e : TypeId} {xs : List Value} (h : BdV g A c l W) (hv : W.ownsRow base e size v n xs) (hb : g < base) (hap : ApartV v (.slice A l.length c)) (o : Obj) (hg : (W.alloc o).grownBy W' v.ownBlock) : BdV g A c l W' := by
  have h' := h.below ((Below.refl _ W).alloc (Nat.le_refl _) o)
  exact ⟨(hg.block g h'.a.lt (fun e => by have := (hv.lt g e.symm).1; omega)).trans h'.1, own_apart h'.2 hg rfl hap⟩

set_option maxRecDepth 100000 in
set_option maxHeartbeats 8000000 in
theorem SChanged_any (A : Option Addr) (n c : Nat) (f : Nat → St) (s : St) (w : World) (hn : n ≤ c ∧ c ≤ maxLen) (hA : Sl w w.heap.size 5 A n (fun i => stV (f i))) (hf : ∀ i, i < n → (f i).c.size ≤ maxLen ∧ (f i).f.size ≤ maxLen) (hs : s.c.size ≤ maxLen ∧ s.f.size ≤ maxLen) (he : Env w) :
    Calls Tryd.prog 3 #[.slice A n c, .agg #[.string s.c, .string s.f, .int .i64 s.t, .int .i64 s.h, .int .i64 s.b]] w fun e w' => e = .returned (.bool true) ∧ Below w.heap.size w w' := by
  obtain ⟨N, hN, hN1, hN2⟩ : ∃ N : Nat, min (n : Int) 8 = (N : Int) ∧ N ≤ n ∧ N ≤ 8 := ⟨min n 8, by omega, by omega, by omega⟩
  have n0 : (0 : Int) ≤ (N : Int) := by omega
  have nc : (N : Int) ≤ (c : Int) := by omega
  have HA := Lib.hid (hA.less hN1)
  have HF := Lib.hid (fun i (hi : i < N) => hf i (by omega))
  have HS := Lib.hid hs
  have HE := Lib.hid he
  obtain ⟨v, hv⟩ : ∃ v, w.heap.size = v := ⟨_, rfl⟩
  have HVe := Lib.hid hv
  clear hA hf hs he hn hN1
  have HChg := Lib.hid (fun (g : Nat) (A : Option Addr) (c : Nat) (l : List Va) (W : World) (hB : BdV g A c l W) (hl : l.length ≤ 15) => show Calls Tryd.prog 8 #[.pointer (some ⟨g, 0, none⟩), .agg #[.string s.c, .string s.f, .int .i64 s.t, .int .i64 s.h, .int .i64 s.b]] W (ChP g A c l s W) from by
    by_cases hE : stE s = 0
    · rcases idx_cases l s.c with ⟨j, h1, h2, h3⟩ | ⟨h1, _⟩
      · exact Change_at hB hl HS.out.1 HS.out.2 hE j h1 h2 h3
      · exact Change_none hB hl HS.out.1 HS.out.2 hE h1
    · exact Change_no hB HS.out.1 HS.out.2 hE)
  obtain ⟨sc, sf, st, sh, sb⟩ := s
  dsimp only at HChg ⊢
  obtain ⟨W0, hW0, g0, hb0⟩ : ∃ W0, w.alloc (.cells #[.string sc, .string sf, .int .i64 st, .int .i64 sh, .int .i64 sb] 24) = W0 ∧ W0.heap[v]? = some (.cells #[.string sc, .string sf, .int .i64 st, .int .i64 sh, .int .i64 sb] 24 (0, 0)) ∧ Below v w W0 :=
    ⟨_, rfl, by rw [← hv]; exact heap_alloc_new w _, (Below.refl _ w).alloc (by omega) _⟩
  have HG := Lib.hid (And.intro g0 hb0)
  have hv0 : v < W0.heap.size := (Array.getElem?_eq_some_iff.1 g0).1
  have hE0 : Hid (Env W0) := Lib.hid (HE.out.below (by rw [hv]; exact hb0))
  clear g0 hb0
  go_enter Tryd.func3, Tryd.ntmps3
  go_wp2_with (first
    | (go_at_call 5; go_loud (refine (New_any W0).mono ?_; rintro e w1 ⟨rfl, hbd, hb1⟩; have HBd := Lib.hid hbd; have HB1 := Lib.hid (And.intro ((hb1.block v hv0).trans HG.out.1) (HG.out.2.trans (hb1.mono (by omega)))); have hE1 := Lib.hid (hE0.out.below hb1); have hz1 := hbd.a.lt; clear hbd hb1))
    | (go_at_call 6; go_loud (refine (fact_any w1 hE1.out).mono ?_; rintro e w2 ⟨rfl, hb2⟩; have HBd2 := Lib.hid (HBd.out.below hb2); have HB2 := Lib.hid (And.intro ((hb2.block v (by omega)).trans HB1.out.1) (HB1.out.2.trans (hb2.mono (by omega)))); have hz2 := hb2.size; clear hb2)))
  obtain ⟨g, hg⟩ : ∃ g, W0.heap.size = g := ⟨_, rfl⟩
  rw [hg] at HBd2 hz1 hv0 ⊢
  have hg2 : g < w2.heap.size := by omega
  obtain ⟨w0, rfl⟩ : ∃ w0 : World, w0 = w2 := ⟨_, rfl⟩
  obtain ⟨i24, E0, E1, E2, E3⟩ := info_parts strip_info
  clear hW0 HBd HB1 hE1 hE0 hg HG
  go_loopw [6, 27] (fun p i wr => ∃ (k m : Nat) (l : List Va) (B : Option Addr) (cB : Nat) (V : Option Addr) (cv : Nat), k ≤ N ∧ i = .int .i64 (k : Int) ∧ p = .slice V m cv ∧ Hid (l.length = m ∧ m ≤ k) ∧ Hid (Dist l) ∧ Hid (BdV g B cB l wr) ∧ Hid (wr.ownsRow (g + 1) 24 5 (.slice V m cv) m (rowsV vaV l)) ∧ Hid (ApartV (.slice V m cv) (.slice B m cB)) ∧ Hid (Below g w0 wr)) (fun _ i _ => N - (intOf i).toNat)
  case atStart => exact ⟨0, 0, [], none, 0, none, 0, by omega, rfl, rfl, Lib.hid ⟨rfl, Nat.le_refl _⟩, Lib.hid (fun i _ hi => absurd hi (by simp)), HBd2, Lib.hid (World.ownsRow_nil _ _ _ _), Lib.hid apart_nil, Lib.hid (Below.refl _ _)⟩
  case round =>
    obtain ⟨k, m, l, B, cB, V, cv, hk, rfl, rfl, HL, HD, HBo, HV, HAp, HW⟩ := hrel
    have HWv := Lib.hid (HB2.out.2.trans (HW.out.mono (by omega)))
    have hgr := HBo.out.a.lt
    have hmk := HL.out.2
    by_cases hkN : k < N
    · obtain ⟨b, off, rfl, hbb, hr⟩ := st_cells HA.out (by omega)
      have hbv : b < v := by have := HVe.out; omega
      obtain ⟨r0, r1, r2, r3, r4⟩ := hr k hkN
      have o0 := (HWv.out.cell (p := ⟨b, off + k * 5, none⟩) hbv).trans r0
      have o1 := (HWv.out.cell (p := ⟨b, off + k * 5 + 1, none⟩) hbv).trans r1
      have o2 := (HWv.out.cell (p := ⟨b, off + k * 5 + 2, none⟩) hbv).trans r2
      have o3 := (HWv.out.cell (p := ⟨b, off + k * 5 + 3, none⟩) hbv).trans r3
      have o4 := (HWv.out.cell (p := ⟨b, off + k * 5 + 4, none⟩) hbv).trans r4
      have hfk := HF.out k hkN
      obtain ⟨x, hx⟩ : ∃ x, f k = x := ⟨_, rfl⟩
      rw [hx] at o0 o1 o2 o3 o4 hfk
      have hk0 : (0 : Int) ≤ (k : Int) := by omega
      have hkn : (k : Int) < (N : Int) := by omega
      have hwk : IntKind.i64.wrap ((k : Int) + 1) = (k : Int) + 1 := IntWalk.i64_in _ (by omega)
      have hal : Below wr.heap.size wr (wr.alloc (.cells #[.string x.c, .string x.f, .int .i64 x.t, .int .i64 x.h, .int .i64 x.b] 24)) := (Below.refl _ _).alloc (Nat.le_refl _) _
      have HAl := Lib.hid hal
      clear hr r0 r1 r2 r3 r4 hx hal
      by_cases hE : stE x = 0
      · rcases idx_cases l x.c with ⟨j, h1, h2, h3⟩ | ⟨h1, h2⟩
        · have HP := Lib.hid (Put_dup (g := g) (HBo.out.below HAl.out) (by rw [HL.out.1]; omega) hfk.1 hfk.2 hE (by omega))
          clear h1 h2 h3 hE hfk
          obtain ⟨xc, xf, xt, xh, xb⟩ := x
          dsimp only at *
          go_wp2_with (go_at_call 7; go_loud (refine HP.out.mono ?_; rintro e w3 ⟨rfl, hb3⟩; have H3 := Lib.hid (HAl.out.trans (hb3.mono (by simp))); clear hb3))
          go_roundw
          case rel => exact ⟨k + 1, m, l, B, cB, V, cv, by omega, by go_num, rfl, Lib.hid ⟨HL.out.1, by omega⟩, HD, HBo.out.below H3.out, Lib.hid (own_below HV.out H3.out (Nat.le_refl _)), HAp, Lib.hid (HW.out.trans (H3.out.mono (Nat.le_of_lt hgr)))⟩
          case measure => simp [intOf]; omega
        · have hPO := Put_ok (g := g) (x := ⟨x, hE⟩) (HBo.out.below HAl.out) (by rw [HL.out.1]; omega) hfk.1 hfk.2 h1
          have HDn := Lib.hid (dist_snoc HD.out (x := ⟨x, hE⟩) h2)
          obtain ⟨xv, hxv⟩ : ∃ xv : Va, (⟨x, hE⟩ : Va) = xv := ⟨_, rfl⟩
          have hxe : xv.1 = x := by rw [← hxv]
          rw [hxv] at HDn
          have HP : Hid (Calls Tryd.prog 7 #[.pointer (some ⟨g, 0, none⟩), .agg #[.string x.c, .string x.f, .int .i64 x.t, .int .i64 x.h, .int .i64 x.b]] (wr.alloc (.cells #[.string x.c, .string x.f, .int .i64 x.t, .int .i64 x.h, .int .i64 x.b] 24)) (PutP g B l xv (wr.alloc (.cells #[.string x.c, .string x.f, .int .i64 x.t, .int .i64 x.h, .int .i64 x.b] 24)))) := Lib.hid (by rw [← hxv]; exact hPO)
          have HXr : Hid (rowsV vaV l ++ [.string x.c, .string x.f, .int .i64 x.t, .int .i64 x.h, .int .i64 x.b] = rowsV vaV (l ++ [xv])) := Lib.hid (by rw [rowsV_snoc]; unfold vaV; rw [hxe]; rfl)
          clear h1 h2 hPO hxv hxe hE hfk
          obtain ⟨xc, xf, xt, xh, xb⟩ := x
          dsimp only at *
          have HNew := Lib.hid (heap_alloc_new wr (.cells #[.string xc, .string xf, .int .i64 xt, .int .i64 xh, .int .i64 xb] 24))
          go_wp2_with (first
            | (go_at_call 7; go_loud (refine HP.out.mono ?_; rintro e w3 ⟨B', cB', rfl, hbd, hbl, hoff, hA'⟩; have HBd3 := Lib.hid hbd; have HBl3 := Lib.hid hbl; have HOf := Lib.hid hoff; have HA' := Lib.hid hA'; have hz3 := hbl.size; simp at hz3; have HV3 := Lib.hid (hoff.own (by simp; omega) (HV.out.alloc _) (fun e => by have := (HV.out.lt g e).1; omega) HAp.out); have HAp3 := Lib.hid (Off.apart (m' := (l ++ [xv]).length) (c' := cB') hA' (HV.out.alloc _) HAp.out); have HT3 := Lib.hid ((hoff wr.heap.size (by simp) (by omega) (fun a ha e => by have h9 := (HBo.out.2.lt a.block (by rw [ha]; rfl)).2; omega)).trans HNew.out); have t0 := cell_of_row w3 wr.heap.size 0 _ 24 (0, 0) HT3.out; have t1 := cell_of_row w3 wr.heap.size 1 _ 24 (0, 0) HT3.out; have t2 := cell_of_row w3 wr.heap.size 2 _ 24 (0, 0) HT3.out; have t3 := cell_of_row w3 wr.heap.size 3 _ 24 (0, 0) HT3.out; have t4 := cell_of_row w3 wr.heap.size 4 _ 24 (0, 0) HT3.out; clear hbd hbl hoff hA'))
            | (at_builtin; go_loud (refine wpList_append_oneN w3 w3.heap.size rfl #[.string xc, .string xf, .int .i64 xt, .int .i64 xh, .int .i64 xb] rfl (.tmp 35) (.tmp 37) 22 rfl (g + 1) 24 i24 (.agg #[.string ByteArray.empty, .string ByteArray.empty, .int .i64 0, .int .i64 0, .int .i64 0]) 5 56 Tryd.underlying22 E0 E1 E2 E3 rfl (by decide) (.slice V m cv) m _ rfl HV3.out rfl rfl (by simp [Value.oneCell']) (by omega) (by decide) (by omega) ?_); intro g6 cap6 w6 hv6 hg6 hat6 hlt6))
          go_roundw
          case rel =>
            refine ⟨k + 1, m + 1, l ++ [xv], B', cB', some ⟨g6, 0, none⟩, cap6, by omega, by go_num, rfl, Lib.hid ⟨by rw [List.length_append, HL.out.1]; rfl, by omega⟩, HDn, ?_, ?_, ?_, ?_⟩
            · exact Lib.hid (HBd3.out.grown HV3.out (by omega) HAp3.out _ hg6)
            · exact Lib.hid (HXr.out ▸ hv6)
            · have h9 := apart_app (g := g6) (m := m + 1) (cap := cap6) HAp3.out HBd3.out.2 hat6
              rw [List.length_append, HL.out.1] at h9
              exact Lib.hid h9
            · exact Lib.hid (below_app ((HW.out.alloc (Nat.le_of_lt hgr) _).trans HBl3.out) (by omega) HV3.out (by omega) hg6)
          case measure => simp [intOf]; omega
      · have HP := Lib.hid (Put_no (g := g) (x := x) (w := wr.alloc (.cells #[.string x.c, .string x.f, .int .i64 x.t, .int .i64 x.h, .int .i64 x.b] 24)) hfk.1 hfk.2 hE)
        obtain ⟨r, hr⟩ : ∃ r, stE x = r := ⟨_, rfl⟩
        rw [hr] at HP hE
        have hr0 : (r == 0) = false := by simpa using hE
        clear hE hfk hr
        obtain ⟨xc, xf, xt, xh, xb⟩ := x
        dsimp only at *
        go_wp2_with (go_at_call 7; go_loud (refine HP.out.mono ?_; rintro e w3 ⟨rfl, hb3⟩; have H3 := Lib.hid (HAl.out.trans (hb3.mono (by simp))); clear hb3))
        go_roundw
        case rel => exact ⟨k + 1, m, l, B, cB, V, cv, by omega, by go_num, rfl, Lib.hid ⟨HL.out.1, by omega⟩, HD, HBo.out.below H3.out, Lib.hid (own_below HV.out H3.out (Nat.le_refl _)), HAp, Lib.hid (HW.out.trans (H3.out.mono (Nat.le_of_lt hgr)))⟩
        case measure => simp [intOf]; omega
    · obtain rfl : N = k := by omega
      have hvg : v < g := by omega
      have hvr : v < wr.heap.size := by omega
      have HVw := Lib.hid ((HW.out.block v hvg).trans HB2.out.1)
      have a0 := cell_of_row wr v 0 _ 24 (0, 0) HVw.out
      have a1 := cell_of_row wr v 1 _ 24 (0, 0) HVw.out
      have a2 := cell_of_row wr v 2 _ 24 (0, 0) HVw.out
      have a3 := cell_of_row wr v 3 _ 24 (0, 0) HVw.out
      have a4 := cell_of_row wr v 4 _ 24 (0, 0) HVw.out
      have HC := Lib.hid (HChg.out g B cB l wr HBo.out (by rw [HL.out.1]; omega))
      go_wp2_with (go_at_call 8; go_loud (refine HC.out.mono ?_; rintro e w3 ⟨r, l', rfl, hbd, hbl, hoff, hcase⟩; have HBd3 := Lib.hid hbd; have HBl3 := Lib.hid hbl; have HCase := Lib.hid hcase; have hz3 := hbl.size; have HV3 := Lib.hid (Sl_rows vaV_len (hoff.own hbl.size HV.out (fun e => by have := (HV.out.lt g e).1; omega) HAp.out) HL.out.1 (by decide)); have HW3 := Lib.hid (And.intro ((hbl.block v hvg).trans HVw.out) (HWv.out.trans (hbl.mono (by omega)))); clear hbd hbl hoff hcase))
      have hm0 : (0 : Int) ≤ (m : Int) := by omega
      have hl' : l'.length = m ∧ (∀ j, j < m → l'[j]!.1.c = l[j]!.1.c) := by
        rcases HCase.out with ⟨_, h⟩ | ⟨_, x, i, hx, hi, hic, h⟩
        · rw [h]; exact ⟨HL.out.1, fun _ _ => rfl⟩
        · rw [h]
          refine ⟨by rw [List.length_set, HL.out.1], fun j hj => (set_calls hi (by rw [hic, hx]) j (by rw [HL.out.1]; exact hj)).1⟩
      have HD' : Hid (Dist l') := Lib.hid (fun i j hi hj h => by
        rw [hl'.1] at hi hj
        rw [hl'.2 i hi, hl'.2 j hj] at h
        exact HD.out i j (by rw [HL.out.1]; exact hi) (by rw [HL.out.1]; exact hj) h)
      have HLl := Lib.hid hl'
      obtain ⟨wq, rfl⟩ : ∃ wq : World, wq = w3 := ⟨_, rfl⟩
      clear hl' a0 a1 a2 a3 a4
      go_loopw [45] (fun i wr => ∃ j : Nat, j ≤ m ∧ i = .int .i64 (j : Int) ∧ Hid (Below wq.heap.size wq wr)) (fun i _ => m - (intOf i).toNat)
      case atStart => exact ⟨0, by omega, rfl, Lib.hid (Below.refl _ _)⟩
      case round =>
        obtain ⟨j, hj, rfl, HR⟩ := hrel
        have hzr := HR.out.size
        by_cases hjm : j < m
        · obtain ⟨bb, off, rfl, hbb, hr⟩ := HV3.out (by omega)
          have hcs : ∀ q v, (vaV l[j]!)[q]? = some v → wr.cell? ⟨bb, off + j * 5 + q, none⟩ = some v := fun q v hv => (HR.out.cell (p := ⟨bb, off + j * 5 + q, none⟩) hbb).trans (hr j hjm q v hv)
          have HRw := Lib.hid (HR.out)
          have HVr := Lib.hid ((HR.out.block v (by omega)).trans HW3.out.1)
          have hget := fun (W : World) (hW : Below wq.heap.size wq W) => Get_yes (HBd3.out.below hW).a (by rw [List.length_map, HLl.out.1]; omega) l[j]!.1.c j (by rw [List.length_map, HLl.out.1]; exact hjm) (idx_dist HD'.out (by rw [HLl.out.1]; exact hjm) (HLl.out.2 j hjm))
          have hmp := map_at l' (i := j) (by rw [HLl.out.1]; exact hjm)
          simp only [hmp] at hget
          have hy : (l[j]!.1.c ≠ sc ∧ l'[j]! = l[j]!) ∨ (l[j]!.1.c = sc ∧ r ≠ 0 ∧ l'[j]! = l[j]!) ∨ (l[j]!.1.c = sc ∧ r = 0 ∧ l'[j]!.1 = ⟨sc, sf, st, sh, sb⟩) := by
            by_cases hc : l[j]!.1.c = sc
            · right
              rcases HCase.out with ⟨h1, h⟩ | ⟨h1, x, i, hx, hi, hic, h⟩
              · exact .inl ⟨hc, h1, by rw [h]⟩
              · refine .inr ⟨hc, h1, ?_⟩
                have hij : i = j := HD.out i j hi (by rw [HL.out.1]; exact hjm) (hic.trans hc.symm)
                rw [h, (set_calls hi (by rw [hic, hx]) j (by rw [HL.out.1]; exact hjm)).2, if_pos hij, hx]
            · left
              refine ⟨hc, ?_⟩
              rcases HCase.out with ⟨h1, h⟩ | ⟨h1, x, i, hx, hi, hic, h⟩
              · rw [h]
              · have hij : i ≠ j := fun e => hc (by rw [← e]; exact hic)
                rw [h, (set_calls hi (by rw [hic, hx]) j (by rw [HL.out.1]; exact hjm)).2, if_neg hij]
          have hj0 : (0 : Int) ≤ (j : Int) := by omega
          have hjn : (j : Int) < (m : Int) := by omega
          have hwj : IntKind.i64.wrap ((j : Int) + 1) = (j : Int) + 1 := IntWalk.i64_in _ (by omega)
          have hvr' : v < wr.heap.size := by omega
          generalize l'[j]! = y at *
          generalize l[j]! = x at *
          have d0 : wr.cell? ⟨bb, off + j * 5, none⟩ = some (.string x.1.c) := hcs 0 _ rfl
          have d1 : wr.cell? ⟨bb, off + j * 5 + 1, none⟩ = some (.string x.1.f) := hcs 1 _ rfl
          have d2 : wr.cell? ⟨bb, off + j * 5 + 2, none⟩ = some (.int .i64 x.1.t) := hcs 2 _ rfl
          have d3 : wr.cell? ⟨bb, off + j * 5 + 3, none⟩ = some (.int .i64 x.1.h) := hcs 3 _ rfl
          have d4 : wr.cell? ⟨bb, off + j * 5 + 4, none⟩ = some (.int .i64 x.1.b) := hcs 4 _ rfl
          clear hcs hr hmp
          rcases hy with ⟨hc, rfl⟩ | ⟨hc, hr0, rfl⟩ | ⟨hc, hr0, hys⟩
          · have tc : (y.1.c.toList == sc.toList) = false := by rw [ba_beq]; simpa using hc
            have HGet := Lib.hid hget
            clear hget hc
            generalize y.1.c = xc at *
            generalize y.1.f = xf at *
            generalize y.1.t = xt at *
            generalize y.1.h = xh at *
            generalize y.1.b = xb at *
            have HNew := Lib.hid (heap_alloc_new wr (.cells #[.string xc, .string xf, .int .i64 xt, .int .i64 xh, .int .i64 xb] 24))
            go_wp2_with (go_at_call 9; go_loud (refine (HGet.out _ (HRw.out.alloc (by omega) _)).mono ?_; rintro e w4 ⟨rfl, hb4⟩; have H4 := Lib.hid (And.intro ((hb4.block wr.heap.size (by simp)).trans HNew.out) (And.intro ((hb4.block v (by simp; omega)).trans ((Below.heap_alloc wr _ v (by omega)).trans HVr.out)) ((HRw.out.alloc (by omega) _).trans (hb4.mono (by simp; omega))))); have hz4 := hb4.size; simp at hz4; have t0 := cell_of_row w4 wr.heap.size 0 _ 24 (0, 0) H4.out.1; have t1 := cell_of_row w4 wr.heap.size 1 _ 24 (0, 0) H4.out.1; have t2 := cell_of_row w4 wr.heap.size 2 _ 24 (0, 0) H4.out.1; have t3 := cell_of_row w4 wr.heap.size 3 _ 24 (0, 0) H4.out.1; have t4 := cell_of_row w4 wr.heap.size 4 _ 24 (0, 0) H4.out.1; have u0 := cell_of_row w4 v 0 _ 24 (0, 0) H4.out.2.1; have u1 := cell_of_row w4 v 1 _ 24 (0, 0) H4.out.2.1; have u2 := cell_of_row w4 v 2 _ 24 (0, 0) H4.out.2.1; have u3 := cell_of_row w4 v 3 _ 24 (0, 0) H4.out.2.1; have u4 := cell_of_row w4 v 4 _ 24 (0, 0) H4.out.2.1; have ft0 := frozen_of_row w4 wr.heap.size 0 _ 24 H4.out.1; have ft1 := frozen_of_row w4 wr.heap.size 1 _ 24 H4.out.1; have ft2 := frozen_of_row w4 wr.heap.size 2 _ 24 H4.out.1; have ft3 := frozen_of_row w4 wr.heap.size 3 _ 24 H4.out.1; have ft4 := frozen_of_row w4 wr.heap.size 4 _ 24 H4.out.1; have hwl : wr.heap.size < w4.heap.size := (by omega); have hwn : wr.heap.size ≠ w4.heap.size := (by omega); have hvl4 : v < w4.heap.size := (by omega); have hvn4 : v ≠ w4.heap.size := (by omega); have hvw : v ≠ wr.heap.size := (by omega); clear hb4))
            go_roundw
            case rel => exact ⟨j + 1, by omega, by go_num, Lib.hid (H4.out.2.2.alloc (by omega) _)⟩
            case measure => simp [intOf]; omega
          · have tc : (y.1.c.toList == sc.toList) = true := by rw [ba_beq]; simpa using hc
            have tr : (r == 0) = false := by simpa using hr0
            have HGet := Lib.hid hget
            clear hget hc hr0
            generalize y.1.c = xc at *
            generalize y.1.f = xf at *
            generalize y.1.t = xt at *
            generalize y.1.h = xh at *
            generalize y.1.b = xb at *
            have HNew := Lib.hid (heap_alloc_new wr (.cells #[.string xc, .string xf, .int .i64 xt, .int .i64 xh, .int .i64 xb] 24))
            go_wp2_with (go_at_call 9; go_loud (refine (HGet.out _ (HRw.out.alloc (by omega) _)).mono ?_; rintro e w4 ⟨rfl, hb4⟩; have H4 := Lib.hid (And.intro ((hb4.block wr.heap.size (by simp)).trans HNew.out) (And.intro ((hb4.block v (by simp; omega)).trans ((Below.heap_alloc wr _ v (by omega)).trans HVr.out)) ((HRw.out.alloc (by omega) _).trans (hb4.mono (by simp; omega))))); have hz4 := hb4.size; simp at hz4; have t0 := cell_of_row w4 wr.heap.size 0 _ 24 (0, 0) H4.out.1; have t1 := cell_of_row w4 wr.heap.size 1 _ 24 (0, 0) H4.out.1; have t2 := cell_of_row w4 wr.heap.size 2 _ 24 (0, 0) H4.out.1; have t3 := cell_of_row w4 wr.heap.size 3 _ 24 (0, 0) H4.out.1; have t4 := cell_of_row w4 wr.heap.size 4 _ 24 (0, 0) H4.out.1; have u0 := cell_of_row w4 v 0 _ 24 (0, 0) H4.out.2.1; have u1 := cell_of_row w4 v 1 _ 24 (0, 0) H4.out.2.1; have u2 := cell_of_row w4 v 2 _ 24 (0, 0) H4.out.2.1; have u3 := cell_of_row w4 v 3 _ 24 (0, 0) H4.out.2.1; have u4 := cell_of_row w4 v 4 _ 24 (0, 0) H4.out.2.1; have ft0 := frozen_of_row w4 wr.heap.size 0 _ 24 H4.out.1; have ft1 := frozen_of_row w4 wr.heap.size 1 _ 24 H4.out.1; have ft2 := frozen_of_row w4 wr.heap.size 2 _ 24 H4.out.1; have ft3 := frozen_of_row w4 wr.heap.size 3 _ 24 H4.out.1; have ft4 := frozen_of_row w4 wr.heap.size 4 _ 24 H4.out.1; have hwl : wr.heap.size < w4.heap.size := (by omega); have hwn : wr.heap.size ≠ w4.heap.size := (by omega); have hvl4 : v < w4.heap.size := (by omega); have hvn4 : v ≠ w4.heap.size := (by omega); have hvw : v ≠ wr.heap.size := (by omega); clear hb4))
            go_roundw
            case rel => exact ⟨j + 1, by omega, by go_num, Lib.hid (H4.out.2.2.alloc (by omega) _)⟩
            case measure => simp [intOf]; omega
          · have tc : (x.1.c.toList == sc.toList) = true := by rw [ba_beq]; simpa using hc
            subst hr0
            rw [hys] at hget
            dsimp only at hget
            have HGet := Lib.hid hget
            clear hget hc hys
            generalize x.1.c = xc at *
            generalize x.1.f = xf at *
            generalize x.1.t = xt at *
            generalize x.1.h = xh at *
            generalize x.1.b = xb at *
            have HNew := Lib.hid (heap_alloc_new wr (.cells #[.string xc, .string xf, .int .i64 xt, .int .i64 xh, .int .i64 xb] 24))
            go_wp2_with (go_at_call 9; go_loud (refine (HGet.out _ (HRw.out.alloc (by omega) _)).mono ?_; rintro e w4 ⟨rfl, hb4⟩; have H4 := Lib.hid (And.intro ((hb4.block wr.heap.size (by simp)).trans HNew.out) (And.intro ((hb4.block v (by simp; omega)).trans ((Below.heap_alloc wr _ v (by omega)).trans HVr.out)) ((HRw.out.alloc (by omega) _).trans (hb4.mono (by simp; omega))))); have hz4 := hb4.size; simp at hz4; have t0 := cell_of_row w4 wr.heap.size 0 _ 24 (0, 0) H4.out.1; have t1 := cell_of_row w4 wr.heap.size 1 _ 24 (0, 0) H4.out.1; have t2 := cell_of_row w4 wr.heap.size 2 _ 24 (0, 0) H4.out.1; have t3 := cell_of_row w4 wr.heap.size 3 _ 24 (0, 0) H4.out.1; have t4 := cell_of_row w4 wr.heap.size 4 _ 24 (0, 0) H4.out.1; have u0 := cell_of_row w4 v 0 _ 24 (0, 0) H4.out.2.1; have u1 := cell_of_row w4 v 1 _ 24 (0, 0) H4.out.2.1; have u2 := cell_of_row w4 v 2 _ 24 (0, 0) H4.out.2.1; have u3 := cell_of_row w4 v 3 _ 24 (0, 0) H4.out.2.1; have u4 := cell_of_row w4 v 4 _ 24 (0, 0) H4.out.2.1; have ft0 := frozen_of_row w4 wr.heap.size 0 _ 24 H4.out.1; have ft1 := frozen_of_row w4 wr.heap.size 1 _ 24 H4.out.1; have ft2 := frozen_of_row w4 wr.heap.size 2 _ 24 H4.out.1; have ft3 := frozen_of_row w4 wr.heap.size 3 _ 24 H4.out.1; have ft4 := frozen_of_row w4 wr.heap.size 4 _ 24 H4.out.1; have hwl : wr.heap.size < w4.heap.size := (by omega); have hwn : wr.heap.size ≠ w4.heap.size := (by omega); have hvl4 : v < w4.heap.size := (by omega); have hvn4 : v ≠ w4.heap.size := (by omega); have hvw : v ≠ wr.heap.size := (by omega); clear hb4))
            go_roundw
            case rel =>
              refine ⟨j + 1, by omega, by go_num, Lib.hid ?_⟩
              have h9 := H4.out.2.2
              exact (((((h9.setCell (p := ⟨wr.heap.size, 0, none⟩) hzr _).setCell (p := ⟨wr.heap.size, 1, none⟩) hzr _).setCell (p := ⟨wr.heap.size, 2, none⟩) hzr _).setCell (p := ⟨wr.heap.size, 3, none⟩) hzr _).setCell (p := ⟨wr.heap.size, 4, none⟩) hzr _).alloc (by simp [World.setCell]; omega) _
            case measure => simp [intOf]; omega
        · obtain rfl : m = j := by omega
          go_wp2
          go_ret
          refine ⟨rfl, ?_⟩
          rw [HVe.out]
          exact HW3.out.2.trans (HR.out.mono (by omega))
end Go.Proofs.YtadhkncilokdjaaDoor
