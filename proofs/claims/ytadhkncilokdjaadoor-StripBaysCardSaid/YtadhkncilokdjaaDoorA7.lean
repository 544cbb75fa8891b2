/- Package strip: Get, Change. -/
import Derived.Test.YtadhkncilokdjaaDoorA6
namespace Go.Proofs.YtadhkncilokdjaaDoor
open Go.RowKit

theorem own_st {base g n cap : Nat} {l : List St} {w : World} (h : w.ownsRow base 24 5 (.slice (some ⟨g, 0, none⟩) n cap) n (rowsV stV l)) (hl : l.length = n) (r : Nat) (hr : r < n) (x : St) :
    (((((w.setCell ⟨g, r * 5, none⟩ (.string x.c)).setCell ⟨g, r * 5 + 1, none⟩ (.string x.f)).setCell ⟨g, r * 5 + 2, none⟩ (.int .i64 x.t)).setCell ⟨g, r * 5 + 3, none⟩ (.int .i64 x.h)).setCell ⟨g, r * 5 + 4, none⟩ (.int .i64 x.b)).ownsRow base 24 5 (.slice (some ⟨g, 0, none⟩) n cap) n (rowsV stV (l.set r x)) := by
  have hrl : r < l.length := by omega
  have h1 := (h.stored (r * 5 + 0) (.string x.c)).1
  rw [rowsV_cell (k := 5) (fun _ => rfl) l r hrl 0 (by decide) _ (⟨x.c, (l[r]!).f, (l[r]!).t, (l[r]!).h, (l[r]!).b⟩ : St) rfl] at h1
  have h2 := (h1.stored (r * 5 + 1) (.string x.f)).1
  rw [rowsV_cell (k := 5) (fun _ => rfl) _ r (by simpa using hrl) 1 (by decide) _ (⟨x.c, x.f, (l[r]!).t, (l[r]!).h, (l[r]!).b⟩ : St) (by rw [getElem!_pos _ r (by simpa using hrl), List.getElem_set_self]; rfl), List.set_set] at h2
  have h3 := (h2.stored (r * 5 + 2) (.int .i64 x.t)).1
  rw [rowsV_cell (k := 5) (fun _ => rfl) _ r (by simpa using hrl) 2 (by decide) _ (⟨x.c, x.f, x.t, (l[r]!).h, (l[r]!).b⟩ : St) (by rw [getElem!_pos _ r (by simpa using hrl), List.getElem_set_self]; rfl), List.set_set] at h3
  have h4 := (h3.stored (r * 5 + 3) (.int .i64 x.h)).1
  rw [rowsV_cell (k := 5) (fun _ => rfl) _ r (by simpa using hrl) 3 (by decide) _ (⟨x.c, x.f, x.t, x.h, (l[r]!).b⟩ : St) (by rw [getElem!_pos _ r (by simpa using hrl), List.getElem_set_self]; rfl), List.set_set] at h4
  have h5 := (h4.stored (r * 5 + 4) (.int .i64 x.b)).1
  rw [rowsV_cell (k := 5) (fun _ => rfl) _ r (by simpa using hrl) 4 (by decide) _ x (by rw [getElem!_pos _ r (by simpa using hrl), List.getElem_set_self]; rfl), List.set_set] at h5
  exact h5

/-- A strip of a board, cell by cell. -/
theorem BdA.at_ {g c : Nat} {A : Option Addr} {l : List St} {W : World} (h : BdA g A c l W) {i : Nat} (hi : i < l.length) :
    ∃ b, A = some ⟨b, 0, none⟩ ∧ g < b ∧ b < W.heap.size ∧ W.cell? ⟨b, i * 5, none⟩ = some (.string l[i]!.c) ∧ W.cell? ⟨b, i * 5 + 1, none⟩ = some (.string l[i]!.f) ∧ W.cell? ⟨b, i * 5 + 2, none⟩ = some (.int .i64 l[i]!.t) ∧ W.cell? ⟨b, i * 5 + 3, none⟩ = some (.int .i64 l[i]!.h) ∧ W.cell? ⟨b, i * 5 + 4, none⟩ = some (.int .i64 l[i]!.b) ∧ ∀ j, W.frozen? ⟨b, j, none⟩ = false := by
  obtain ⟨b, cap, hv, hb, hbl⟩ := h.2.form (by omega)
  have hA : A = some ⟨b, 0, none⟩ := by injection hv
  subst hA
  have key : ∀ j v, j < 5 → (stV l[i]!)[j]? = some v → W.cell? ⟨b, i * 5 + j, none⟩ = some v := fun j v hj5 hj => by
    have h1 := rowsV_at stV_len l i hi j hj5
    rw [getElem!_pos l i hi] at hj
    have := h.2.cells (g := b) rfl (i * 5 + j) v (h1.trans hj)
    rwa [Addr.add_mid, Nat.zero_add] at this
  exact ⟨b, rfl, by omega, hbl, key 0 _ (by decide) rfl, key 1 _ (by decide) rfl, key 2 _ (by decide) rfl, key 3 _ (by decide) rfl, key 4 _ (by decide) rfl, fun j => h.2.frozenAt j⟩

set_option maxRecDepth 100000 in
set_option maxHeartbeats 2000000 in
theorem Get_yes {g c : Nat} {A : Option Addr} {l : List St} {w : World} (hB : BdA g A c l w) (hn : l.length ≤ 1000) (s : ByteArray) (i : Nat) (hi : i < l.length) (hx : idx l s = (i : Int)) :
    Calls Tryd.prog 9 #[.pointer (some ⟨g, 0, none⟩), .string s] w fun e w' => e = .returned (.tuple #[.agg #[.string l[i]!.c, .string l[i]!.f, .int .i64 l[i]!.t, .int .i64 l[i]!.h, .int .i64 l[i]!.b], .int .i64 0]) ∧ Below w.heap.size w w' := by
  have HI := Lib.hid (fun (W : World) (hW : Below w.heap.size w W) => index_any (hB.below hW) s hn)
  rw [hx] at HI
  have HBd := Lib.hid hB
  obtain ⟨n, hln⟩ : ∃ n, l.length = n := ⟨_, rfl⟩
  have HL := Lib.hid hln
  rw [hln] at hi hn
  have hin : (i : Int) < (n : Int) := by omega
  have hi0 : (0 : Int) ≤ (i : Int) := by omega
  have HLt := Lib.hid hi
  have hgl := hB.lt
  obtain ⟨x, hxx⟩ : ∃ x, l[i]! = x := ⟨_, rfl⟩
  rw [hxx]
  have HXe := Lib.hid hxx
  clear hx hB hln hxx
  obtain ⟨xc, xf, xt, xh, xb⟩ := x
  dsimp only
  obtain ⟨W0, hW0, g0, hb0⟩ : ∃ W0, w.alloc (.cells #[.string ⟨#[]⟩, .string ⟨#[]⟩, .int .i64 0, .int .i64 0, .int .i64 0] 24) = W0 ∧ W0.heap[w.heap.size]? = some (.cells #[.string ⟨#[]⟩, .string ⟨#[]⟩, .int .i64 0, .int .i64 0, .int .i64 0] 24 (0, 0)) ∧ Below w.heap.size w W0 :=
    ⟨_, rfl, heap_alloc_new w _, (Below.refl _ w).alloc (by omega) _⟩
  have HG := Lib.hid (And.intro g0 hb0)
  have hv0 : w.heap.size < W0.heap.size := (Array.getElem?_eq_some_iff.1 g0).1
  clear g0 hb0
  go_enter Tryd.func9, Tryd.ntmps9
  go_wp2_with (go_at_call 18; go_loud (refine (HI.out _ HG.out.2).mono ?_; rintro e w1 ⟨rfl, hb1⟩; have H1 := Lib.hid (And.intro ((hb1.block _ hv0).trans HG.out.1) (HG.out.2.trans (hb1.mono (by omega)))); have hz1 := hb1.size; have hL1 := HBd.out.below H1.out.2; have cg := hL1.cell; rw [HL.out] at cg; obtain ⟨b, hA, hgb, hbl, q0, q1, q2, q3, q4, qf⟩ := hL1.at_ (by rw [HL.out]; exact HLt.out); rw [HXe.out] at q0 q1 q2 q3 q4; dsimp only at q0 q1 q2 q3 q4; subst hA; have k0 := cell_of_row w1 w.heap.size 0 _ 24 (0, 0) H1.out.1; have k1 := cell_of_row w1 w.heap.size 1 _ 24 (0, 0) H1.out.1; have k2 := cell_of_row w1 w.heap.size 2 _ 24 (0, 0) H1.out.1; have k3 := cell_of_row w1 w.heap.size 3 _ 24 (0, 0) H1.out.1; have k4 := cell_of_row w1 w.heap.size 4 _ 24 (0, 0) H1.out.1; have f0 := frozen_of_row w1 w.heap.size 0 _ 24 H1.out.1; have f1 := frozen_of_row w1 w.heap.size 1 _ 24 H1.out.1; have f2 := frozen_of_row w1 w.heap.size 2 _ 24 H1.out.1; have f3 := frozen_of_row w1 w.heap.size 3 _ 24 H1.out.1; have f4 := frozen_of_row w1 w.heap.size 4 _ 24 H1.out.1; clear hb1 hL1))
  refine bodyPost_ret (v := .tuple #[.agg #[.string xc, .string xf, .int .i64 xt, .int .i64 xh, .int .i64 xb], .int .i64 0]) (by simp [results, Tryd.results9, go_sem, k0, k1, k2, k3, k4]) rfl ⟨rfl, ?_⟩
  exact ((((H1.out.2.setCell (p := ⟨w.heap.size, 0, none⟩) (Nat.le_refl _) _).setCell (p := ⟨w.heap.size, 1, none⟩) (Nat.le_refl _) _).setCell (p := ⟨w.heap.size, 2, none⟩) (Nat.le_refl _) _).setCell (p := ⟨w.heap.size, 3, none⟩) (Nat.le_refl _) _).setCell (p := ⟨w.heap.size, 4, none⟩) (Nat.le_refl _) _

/-- What Change leaves. -/
def ChP (g : Nat) (A : Option Addr) (c : Nat) (l : List Va) (s : St) (w : World) (e : Ending) (w' : World) : Prop :=
  ∃ (r : Int) (l' : List Va), e = .returned (.int .i64 r) ∧ BdV g A c l' w' ∧ Below g w w' ∧ Off g A w w' ∧ ((r ≠ 0 ∧ l' = l) ∨ (r = 0 ∧ ∃ (x : Va) (i : Nat), x.1 = s ∧ i < l.length ∧ l[i]!.1.c = s.c ∧ l' = l.set i x))
theorem off_below {g : Nat} {A : Option Addr} {w w' : World} (h : Below w.heap.size w w') : Off g A w w' := fun k hk _ _ => h.block k hk

set_option maxRecDepth 100000 in
theorem Change_no {g c : Nat} {A : Option Addr} {l : List Va} {s : St} {w : World} (hB : BdV g A c l w) (h1 : s.c.size ≤ maxLen) (h2 : s.f.size ≤ maxLen) (hE : stE s ≠ 0) :
    Calls Tryd.prog 8 #[.pointer (some ⟨g, 0, none⟩), .agg #[.string s.c, .string s.f, .int .i64 s.t, .int .i64 s.h, .int .i64 s.b]] w (ChP g A c l s w) := by
  have HC := Lib.hid (fun W => Check_any s W h1 h2)
  have HB := Lib.hid hB
  have HE := Lib.hid hE
  obtain ⟨r, hr⟩ : ∃ r, stE s = r := ⟨_, rfl⟩
  rw [hr] at HC HE
  have hne : (r != 0) = true := by have := HE.out; simpa using this
  clear h1 h2 hE hr hB
  obtain ⟨sc, sf, st, sh, sb⟩ := s
  dsimp only at HC ⊢
  go_enter Tryd.func8, Tryd.ntmps8
  go_wp2_with (go_at_call 17; go_loud (refine (HC.out _).mono ?_; rintro e w1 ⟨rfl, hb1⟩))
  go_ret
  have hb : Below w.heap.size w w1 := ((Below.refl _ w).alloc (Nat.le_refl _) _).trans (hb1.mono (by simp))
  exact ⟨r, l, rfl, HB.out.below hb, hb.mono (Nat.le_of_lt HB.out.a.lt), off_below hb, .inl ⟨HE.out, rfl⟩⟩

set_option maxRecDepth 100000 in
set_option maxHeartbeats 2000000 in
theorem Change_none {g c : Nat} {A : Option Addr} {l : List Va} {s : St} {w : World} (hB : BdV g A c l w) (hn : l.length ≤ 15) (h1 : s.c.size ≤ maxLen) (h2 : s.f.size ≤ maxLen) (hE : stE s = 0) (hi : idx (l.map (·.1)) s.c = -1) :
    Calls Tryd.prog 8 #[.pointer (some ⟨g, 0, none⟩), .agg #[.string s.c, .string s.f, .int .i64 s.t, .int .i64 s.h, .int .i64 s.b]] w (ChP g A c l s w) := by
  have HC := Lib.hid (fun W => Check_any s W h1 h2)
  rw [hE] at HC
  have HB := Lib.hid hB
  have HI := Lib.hid (fun (W : World) (hW : Below w.heap.size w W) => index_any (hB.below hW).a s.c (by rw [List.length_map]; omega))
  rw [hi] at HI
  clear h1 h2 hE hB hi
  obtain ⟨sc, sf, st, sh, sb⟩ := s
  dsimp only at HC HI ⊢
  obtain ⟨W0, hW0, g0, hb0⟩ : ∃ W0, w.alloc (.cells #[.string sc, .string sf, .int .i64 st, .int .i64 sh, .int .i64 sb] 24) = W0 ∧ W0.heap[w.heap.size]? = some (.cells #[.string sc, .string sf, .int .i64 st, .int .i64 sh, .int .i64 sb] 24 (0, 0)) ∧ Below w.heap.size w W0 :=
    ⟨_, rfl, heap_alloc_new w _, (Below.refl _ w).alloc (by omega) _⟩
  have HG := Lib.hid (And.intro g0 hb0)
  have hv0 : w.heap.size < W0.heap.size := (Array.getElem?_eq_some_iff.1 g0).1
  have k0 := cell_of_row W0 w.heap.size 0 _ 24 (0, 0) g0
  have k1 := cell_of_row W0 w.heap.size 1 _ 24 (0, 0) g0
  have k2 := cell_of_row W0 w.heap.size 2 _ 24 (0, 0) g0
  have k3 := cell_of_row W0 w.heap.size 3 _ 24 (0, 0) g0
  have k4 := cell_of_row W0 w.heap.size 4 _ 24 (0, 0) g0
  clear g0 hb0
  go_enter Tryd.func8, Tryd.ntmps8
  go_wp2_with (first
    | (go_at_call 17; go_loud (refine (HC.out _).mono ?_; rintro e w1 ⟨rfl, hb1⟩; have HB1 := Lib.hid (HG.out.2.trans (hb1.mono (by omega))); have j0 := cell_of_row w1 w.heap.size 0 _ 24 (0, 0) ((hb1.block _ hv0).trans HG.out.1); clear hb1))
    | (go_at_call 18; go_loud (refine (HI.out _ HB1.out).mono ?_; rintro e w2 ⟨rfl, hb2⟩)))
  go_ret
  have hb := HB1.out.trans (hb2.mono HB1.out.size)
  exact ⟨8, l, rfl, HB.out.below hb, hb.mono (Nat.le_of_lt HB.out.a.lt), off_below hb, .inl ⟨by decide, rfl⟩⟩

set_option maxRecDepth 100000 in
set_option maxHeartbeats 4000000 in
theorem Change_at {g c : Nat} {A : Option Addr} {l : List Va} {s : St} {w : World} (hB : BdV g A c l w) (hn : l.length ≤ 15) (h1 : s.c.size ≤ maxLen) (h2 : s.f.size ≤ maxLen) (hE : stE s = 0) (i : Nat) (hil : i < l.length) (hi : idx (l.map (·.1)) s.c = (i : Int)) (hic : l[i]!.1.c = s.c) :
    Calls Tryd.prog 8 #[.pointer (some ⟨g, 0, none⟩), .agg #[.string s.c, .string s.f, .int .i64 s.t, .int .i64 s.h, .int .i64 s.b]] w (ChP g A c l s w) := by
  have HC := Lib.hid (fun W => Check_any s W h1 h2)
  rw [hE] at HC
  have HBd := Lib.hid hB
  have HX := Lib.hid (show ∀ x : St, x = s → ∃ y : Va, y.1 = s from fun x _ => ⟨⟨s, hE⟩, rfl⟩)
  have HIc := Lib.hid hic
  have HI := Lib.hid (fun (W : World) (hW : Below w.heap.size w W) => index_any (hB.below hW).a s.c (by rw [List.length_map]; omega))
  rw [hi] at HI
  obtain ⟨n, hln⟩ : ∃ n, l.length = n := ⟨_, rfl⟩
  have HL := Lib.hid hln
  rw [hln] at hil hn
  have hin : (i : Int) < (n : Int) := by omega
  have hi0 : (0 : Int) ≤ (i : Int) := by omega
  have HLt := Lib.hid hil
  have hgl := hB.a.lt
  obtain ⟨sb', hsb'⟩ : ∃ y, (l.map (fun z : Va => z.1))[i]!.b = y := ⟨_, rfl⟩
  have HSb := Lib.hid hsb'
  clear h1 h2 hE hB hi hic hln hsb'
  obtain ⟨sc, sf, st, sh, sb⟩ := s
  dsimp only at HC HI ⊢
  obtain ⟨W0, hW0, g0, hb0⟩ : ∃ W0, w.alloc (.cells #[.string sc, .string sf, .int .i64 st, .int .i64 sh, .int .i64 sb] 24) = W0 ∧ W0.heap[w.heap.size]? = some (.cells #[.string sc, .string sf, .int .i64 st, .int .i64 sh, .int .i64 sb] 24 (0, 0)) ∧ Below w.heap.size w W0 :=
    ⟨_, rfl, heap_alloc_new w _, (Below.refl _ w).alloc (by omega) _⟩
  have HG := Lib.hid (And.intro g0 hb0)
  have hv0 : w.heap.size < W0.heap.size := (Array.getElem?_eq_some_iff.1 g0).1
  have k0 := cell_of_row W0 w.heap.size 0 _ 24 (0, 0) g0
  have k1 := cell_of_row W0 w.heap.size 1 _ 24 (0, 0) g0
  have k2 := cell_of_row W0 w.heap.size 2 _ 24 (0, 0) g0
  have k3 := cell_of_row W0 w.heap.size 3 _ 24 (0, 0) g0
  have k4 := cell_of_row W0 w.heap.size 4 _ 24 (0, 0) g0
  clear g0 hb0
  go_enter Tryd.func8, Tryd.ntmps8
  go_wp2_with (first
    | (go_at_call 17; go_loud (refine (HC.out _).mono ?_; rintro e w1 ⟨rfl, hb1⟩; have H1 := Lib.hid (And.intro ((hb1.block _ hv0).trans HG.out.1) (HG.out.2.trans (hb1.mono (by omega)))); have j0 := cell_of_row w1 w.heap.size 0 _ 24 (0, 0) H1.out.1; have hz1 := hb1.size; clear hb1))
    | (go_at_call 18; go_loud (refine (HI.out _ H1.out.2).mono ?_; rintro e w2 ⟨rfl, hb2⟩; have H2 := Lib.hid (And.intro ((hb2.block _ (by omega)).trans H1.out.1) (H1.out.2.trans (hb2.mono (by omega)))); have hz2 := hb2.size; clear hb2)))
  have hL2 := (HBd.out.below H2.out.2)
  have cg := hL2.a.cell
  rw [List.length_map, HL.out] at cg
  obtain ⟨b, hA, hgb, hbl, q0, q1, q2, q3, q4, qf⟩ := hL2.a.at_ (i := i) (by rw [List.length_map, HL.out]; exact HLt.out)
  rw [HSb.out] at q4
  have p0 := cell_of_row w2 w.heap.size 0 _ 24 (0, 0) H2.out.1
  have p1 := cell_of_row w2 w.heap.size 1 _ 24 (0, 0) H2.out.1
  have p2 := cell_of_row w2 w.heap.size 2 _ 24 (0, 0) H2.out.1
  have p3 := cell_of_row w2 w.heap.size 3 _ 24 (0, 0) H2.out.1
  have p4 := cell_of_row w2 w.heap.size 4 _ 24 (0, 0) H2.out.1
  have HL2 := Lib.hid hL2
  have HA := Lib.hid hA
  subst hA
  clear hL2
  by_cases h3 : sb' = 3
  · have t1 : (sb' == 3) = true := by simpa using h3
    clear h3
    go_quiet (fail)
    go_wp2
    go_ret
    exact ⟨11, l, rfl, HL2.out, below_drewN (H2.out.2.mono (Nat.le_of_lt hgl)) _, off_below (below_drewN H2.out.2 _), .inl ⟨by decide, rfl⟩⟩
  · have t1 : (sb' == 3) = false := by simpa using h3
    by_cases h4 : sb' = sb
    · have t2 : (sb' != sb) = false := by simpa using h4
      clear h3 h4
      go_quiet (fail)
      go_wp2
      obtain ⟨W3, hW3⟩ : ∃ W3, w2.drewN nq = W3 := ⟨_, rfl⟩
      rw [hW3]
      have HW3 := Lib.hid hW3
      have cg3 : W3.cell? ⟨g, 0, none⟩ = some (.slice (some ⟨b, 0, none⟩) n c) := by rw [← hW3]; exact cg
      have r0 : W3.cell? ⟨b, i * 5, none⟩ = some (.string (l.map (fun z : Va => z.1))[i]!.c) := by rw [← hW3]; exact q0
      have r1 : W3.cell? ⟨b, i * 5 + 1, none⟩ = some (.string (l.map (fun z : Va => z.1))[i]!.f) := by rw [← hW3]; exact q1
      have r2 : W3.cell? ⟨b, i * 5 + 2, none⟩ = some (.int .i64 (l.map (fun z : Va => z.1))[i]!.t) := by rw [← hW3]; exact q2
      have r3 : W3.cell? ⟨b, i * 5 + 3, none⟩ = some (.int .i64 (l.map (fun z : Va => z.1))[i]!.h) := by rw [← hW3]; exact q3
      have r4 : W3.cell? ⟨b, i * 5 + 4, none⟩ = some (.int .i64 sb') := by rw [← hW3]; exact q4
      have g0 : W3.frozen? ⟨b, i * 5, none⟩ = false := by rw [← hW3]; exact qf _
      have g1 : W3.frozen? ⟨b, i * 5 + 1, none⟩ = false := by rw [← hW3]; exact qf _
      have g2 : W3.frozen? ⟨b, i * 5 + 2, none⟩ = false := by rw [← hW3]; exact qf _
      have g3 : W3.frozen? ⟨b, i * 5 + 3, none⟩ = false := by rw [← hW3]; exact qf _
      have g4 : W3.frozen? ⟨b, i * 5 + 4, none⟩ = false := by rw [← hW3]; exact qf _
      have u0 : W3.cell? ⟨w.heap.size, 0, none⟩ = some (.string sc) := by rw [← hW3]; exact p0
      have u1 : W3.cell? ⟨w.heap.size, 1, none⟩ = some (.string sf) := by rw [← hW3]; exact p1
      have u2 : W3.cell? ⟨w.heap.size, 2, none⟩ = some (.int .i64 st) := by rw [← hW3]; exact p2
      have u3 : W3.cell? ⟨w.heap.size, 3, none⟩ = some (.int .i64 sh) := by rw [← hW3]; exact p3
      have u4 : W3.cell? ⟨w.heap.size, 4, none⟩ = some (.int .i64 sb) := by rw [← hW3]; exact p4
      obtain ⟨y, hy⟩ : ∃ y, (l.map (fun z : Va => z.1))[i]! = y := ⟨_, rfl⟩
      rw [hy] at r0 r1 r2 r3
      obtain ⟨yc, yf, yt, yh, yb⟩ := y
      dsimp only at r0 r1 r2 r3
      clear hW3 cg q0 q1 q2 q3 q4 qf p0 p1 p2 p3 p4 hy t1 t2
      refine wp_region_still_tail 7 (by kernel_rfl) (by kernel_rfl) ?_
      simp only [List.take_succ_cons, List.take_zero, List.drop_succ_cons, List.drop_zero]
      still_step
      still_step
      still_step
      still_step
      still_step
      still_step
      still_step
      refine wpStill_nil ?_
      change wpList _ _ _ _ _ W3.drew
      go_wp2
      go_ret
      have HO : W3.ownsRow (g + 1) 24 5 (.slice (some ⟨b, 0, none⟩) n c) n (rowsV stV (l.map (fun z : Va => z.1))) := by
        have h9 := HL2.out.2
        rw [HL.out, ← rowsV_map] at h9
        rw [← HW3.out]
        exact h9
      have hos := own_st HO (by rw [List.length_map, HL.out]) i HLt.out ⟨sc, sf, st, sh, sb⟩
      obtain ⟨x, hx⟩ := HX.out _ rfl
      have hG3 : W3.heap[g]? = some (.cells #[.slice (some ⟨b, 0, none⟩) n c] 44 (0, 0)) := by
        have h9 := HL2.out.1
        rw [HL.out] at h9
        rw [← HW3.out]; exact h9
      have hne : g ≠ b := by omega
      have hB3 : Below w.heap.size w W3 := by rw [← HW3.out]; exact below_drewN H2.out.2 _
      have hBg : Below g w W3 := hB3.mono (Nat.le_of_lt hgl)
      refine ⟨0, l.set i x, rfl, ⟨?_, ?_⟩, ?_, ?_, .inr ⟨rfl, x, i, hx, by rw [HL.out]; exact HLt.out, HIc.out, rfl⟩⟩
      · rw [List.length_set, HL.out]
        exact (heap_setCell_other _ _ _ _ hne).trans ((heap_setCell_other _ _ _ _ hne).trans ((heap_setCell_other _ _ _ _ hne).trans ((heap_setCell_other _ _ _ _ hne).trans ((heap_setCell_other _ _ _ _ hne).trans hG3))))
      · rw [List.length_set, HL.out, ← rowsV_map, List.map_set, hx]
        exact hos
      · exact (((((hBg.setCell (p := ⟨b, i * 5, none⟩) (Nat.le_of_lt hgb) _).setCell (p := ⟨b, i * 5 + 1, none⟩) (Nat.le_of_lt hgb) _).setCell (p := ⟨b, i * 5 + 2, none⟩) (Nat.le_of_lt hgb) _).setCell (p := ⟨b, i * 5 + 3, none⟩) (Nat.le_of_lt hgb) _).setCell (p := ⟨b, i * 5 + 4, none⟩) (Nat.le_of_lt hgb) _).drew
      · intro k hk hkg hka
        have hkb : k ≠ b := fun e => hka _ rfl e.symm
        exact (heap_setCell_other _ _ _ _ hkb).trans ((heap_setCell_other _ _ _ _ hkb).trans ((heap_setCell_other _ _ _ _ hkb).trans ((heap_setCell_other _ _ _ _ hkb).trans ((heap_setCell_other _ _ _ _ hkb).trans (hB3.block k hk)))))
    · have t2 : (sb' != sb) = true := by simpa using h4
      clear h3 h4
      go_quiet (fail)
      go_wp2
      go_ret
      exact ⟨11, l, rfl, HL2.out, below_drewN (H2.out.2.mono (Nat.le_of_lt hgl)) _, off_below (below_drewN H2.out.2 _), .inl ⟨by decide, rfl⟩⟩
end Go.Proofs.YtadhkncilokdjaaDoor
