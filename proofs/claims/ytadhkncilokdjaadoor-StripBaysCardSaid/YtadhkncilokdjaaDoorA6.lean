/- Package strip: Put. -/
import Derived.Test.YtadhkncilokdjaaDoorA5
import Derived.Deep.RegionLaw
import Derived.Deep.QuietTactic
namespace Go.Proofs.YtadhkncilokdjaaDoor
open Go.RowKit

theorem step_append_row {P : Program} {ops : Array Oper} {o : Oper} {a : Act} {K : Act → World → Prop} {Q : Exit → Act → World → Prop} {E : Prop} (W : World) (cs : Array Value) (N : Nat) (hgd : o.guard = none) (s x : Operand) (t : TypeId)
    (ho : o.op = .call { callee := .builtin .append, args := #[s, x], argTypes := #[t, t] })
    (base : Nat) (e : TypeId) (i : TypeInfo) (z : Value) (size bytes : Nat) (ht : P.underlying t = some (.slice e)) (hi : P.info? e = some i) (hz : i.zero = some z)
    (hsize : i.size = size) (hby : i.bytes = bytes) (hzs : z.cells.size = size) (hsz : 0 < size)
    (v : Value) (n : Nat) (xs : List Value) (hs : a.eval s = v) (hown : W.ownsRow base e size v n xs) (hcs : cs.size = size) (h1 : cs.all (·.oneCell') = true) (hN : W.heap[N]? = some (.cells cs e (0, 0)))
    (hx : a.eval x = .slice (some ⟨N, 0, none⟩) 1 1) (hn : n + 1 ≤ 100000000) (hbytes : bytes ≤ 1000) (hbase : base ≤ W.heap.size)
    (h : ∀ g cap w', w'.ownsRow base e size (.slice (some ⟨g, 0, none⟩) (n + 1) cap) (n + 1) (xs ++ cs.toList) → W.grownBy w' v.ownBlock → (v.ownBlock = some g ∨ g = W.heap.size) → g < w'.heap.size →
      K (a.put o.dst (.slice (some ⟨g, 0, none⟩) (n + 1) cap)) w') : if Region.wanted o (yielded ops a.tmps) = true then Oper.wp P o a W K Q else E :=
  step_append_lies W hgd s x t ho base e i z size bytes ht hi hz hsize hby hzs hsz v n xs hs hown ⟨N, 0, none⟩ 1 1 cs.toList hx (by simp [hcs]) (fun j u hu => by
      rw [Addr.add_mid, Nat.zero_add, cell_of_row _ _ _ _ _ _ hN]
      simpa using hu) (fun u hu => (Array.all_eq_true_iff_forall_mem.1 h1) u (by simpa using hu)) (by omega) (by simp only [maxLen]; omega)
    (Nat.le_trans (Nat.mul_le_mul hn hbytes) (by decide)) hbase W.heap.size rfl h


/-- Nothing but the board's cell, and its row from the row's end on, has turned. -/
def Off (g : Nat) (A : Option Addr) (w w' : World) : Prop := ∀ k, k < w.heap.size → k ≠ g → (∀ a, A = some a → a.block ≠ k) → w'.heap[k]? = w.heap[k]?
def PutP (g : Nat) (A : Option Addr) (l : List Va) (x : Va) (w : World) (y : Ending) (w' : World) : Prop :=
  ∃ A' c', y = .returned (.int .i64 0) ∧ BdV g A' c' (l ++ [x]) w' ∧ Below g w w' ∧ Off g A w w' ∧ (∀ a, A' = some a → (∃ a0, A = some a0 ∧ a0.block = a.block) ∨ w.heap.size ≤ a.block)

theorem BdV.stored {g c : Nat} {A : Option Addr} {l : List Va} {x : Va} {w W w3 : World} {g3 cap3 : Nat} (h0 : BdV g A c l w) (hbW : Below w.heap.size w W)
    (hown3 : w3.ownsRow (g + 1) 24 5 (.slice (some ⟨g3, 0, none⟩) (l.length + 1) cap3) (l.length + 1) (rowsV vaV l ++ vaV x)) (hg3 : W.grownBy w3 (Value.slice A l.length c).ownBlock) (hat : (Value.slice A l.length c).ownBlock = some g3 ∨ w.heap.size ≤ g3) (q : Nat) :
    PutP g A l x w (.returned (.int .i64 0)) ((w3.setCell ⟨g, 0, none⟩ (.slice (some ⟨g3, 0, none⟩) (l.length + 1) cap3)).drewN q) := by
  have hlt := h0.a.lt
  have hW := h0.below hbW
  have hne : (Value.slice A l.length c).ownBlock ≠ some g := fun x => by have := (h0.2.lt g x).1; omega
  have hb3 : w3.heap[g]? = some (.cells #[.slice A l.length c] 44 (0, 0)) := (hg3.block g hW.a.lt (fun x => hne x.symm)).trans hW.1
  have hS := grown_setCell w3 g 0 (.slice (some ⟨g3, 0, none⟩) (l.length + 1) cap3)
  have hs3 : w.heap.size ≤ w3.heap.size := Nat.le_trans hbW.size hg3.size
  refine ⟨some ⟨g3, 0, none⟩, cap3, rfl, ⟨?_, ?_⟩, ?_, fun k hk hkg hA => ?_, fun a ha => ?_⟩
  · rw [List.length_append, List.length_singleton]
    exact heap_setCell_same _ _ _ _ _ _ hb3
  · rw [List.length_append, List.length_singleton, rowsV_snoc]
    exact hown3.kept (grown_drewN hS q) (.inr fun x => by have := (hown3.lt g x).1; omega)
  · refine below_drewN (((hbW.mono (Nat.le_of_lt hlt)).grown hg3 (by have := hbW.size; omega) (fun k x => ?_)).setCell (p := ⟨g, 0, none⟩) (Nat.le_refl _) _) q
    have := (h0.2.lt k x).1; omega
  · show (w3.setCell ⟨g, 0, none⟩ _).heap[k]? = _
    refine (hS.block k (by omega) (fun x => hkg (by cases x; rfl))).trans ((hg3.block k (Nat.lt_of_lt_of_le hk hbW.size) (fun x => ?_)).trans (hbW.block k hk))
    cases A with
    | none => simp [Value.ownBlock] at x
    | some a => exact hA a rfl (by simpa [Value.ownBlock] using x.symm)
  · cases ha
    rcases hat with x | x
    · cases A with
      | none => simp [Value.ownBlock] at x
      | some a => exact .inl ⟨a, rfl, by simpa [Value.ownBlock] using x⟩
    · exact .inr x

/-- A row that stands apart from the board is kept. -/
theorem Off.own {g : Nat} {A : Option Addr} {w w' : World} (h : Off g A w w') (_hz : w.heap.size ≤ w'.heap.size) {base n size m c : Nat} {e : TypeId} {v : Value} {xs : List Value} (hv : w.ownsRow base e size v n xs) (hg : v.ownBlock ≠ some g) (ha : ApartV v (.slice A m c)) : w'.ownsRow base e size v n xs := by
  refine ⟨hv.1, ?_⟩
  rcases hv.2 with hn | ⟨k, cap, cur, rfl, hb, hgg, rest⟩
  · exact .inl hn
  · refine .inr ⟨k, cap, cur, rfl, hb, ?_, rest⟩
    have hk : k < w.heap.size := (Array.getElem?_eq_some_iff.1 hgg).1
    rw [h k hk (fun e => hg (by rw [e]; rfl)) (fun a hA e => by
      subst hA
      rcases ha with h1 | h1 | h1
      · simp [Value.ownBlock] at h1
      · simp [Value.ownBlock] at h1
      · exact h1 (by simp [Value.ownBlock, e]))]
    exact hgg
theorem Off.apart {A A' : Option Addr} {w : World} (hA' : ∀ a, A' = some a → (∃ a0, A = some a0 ∧ a0.block = a.block) ∨ w.heap.size ≤ a.block) {base n size m c m' c' : Nat} {e : TypeId} {v : Value} {xs : List Value} (hv : w.ownsRow base e size v n xs) (ha : ApartV v (.slice A m c)) : ApartV v (.slice A' m' c') := by
  cases hb : v.ownBlock with
  | none => exact .inl hb
  | some k =>
    cases A' with
    | none => exact .inr (.inl rfl)
    | some a =>
      right; right
      rw [hb]
      intro he
      have he : k = a.block := by simpa [Value.ownBlock] using he
      rcases hA' a rfl with ⟨a0, h1, h2⟩ | h
      · subst h1
        rcases ha with h3 | h3 | h3
        · rw [h3] at hb; cases hb
        · simp [Value.ownBlock] at h3
        · exact h3 (by rw [hb]; simp [Value.ownBlock, he, h2])
      · have := (hv.lt k hb).2
        omega

set_option maxRecDepth 100000 in
theorem Put_no {g : Nat} {x : St} {w : World} (h1 : x.c.size ≤ maxLen) (h2 : x.f.size ≤ maxLen) (hE : stE x ≠ 0) :
    Calls Tryd.prog 7 #[.pointer (some ⟨g, 0, none⟩), .agg #[.string x.c, .string x.f, .int .i64 x.t, .int .i64 x.h, .int .i64 x.b]] w fun e w' => e = .returned (.int .i64 (stE x)) ∧ Below w.heap.size w w' := by
  have HC := Lib.hid (fun W => Check_any x W h1 h2)
  obtain ⟨r, hr⟩ : ∃ r, stE x = r := ⟨_, rfl⟩
  rw [hr] at HC hE ⊢
  have hne : (r != 0) = true := by simpa using hE
  clear h1 h2 hE hr
  obtain ⟨c, f, t, h, b⟩ := x
  dsimp only at HC ⊢
  go_enter Tryd.func7, Tryd.ntmps7
  go_wp2_with (go_at_call 17; go_loud (refine (HC.out _).mono ?_; rintro e w1 ⟨rfl, hb1⟩))
  go_ret
  exact ⟨rfl, ((Below.refl _ w).alloc (Nat.le_refl _) _).trans (hb1.mono (by simp))⟩

set_option maxRecDepth 100000 in
set_option maxHeartbeats 2000000 in
theorem Put_dup {g c : Nat} {A : Option Addr} {l : List Va} {x : St} {w : World} (hB : BdV g A c l w) (hn : l.length ≤ 15) (h1 : x.c.size ≤ maxLen) (h2 : x.f.size ≤ maxLen) (hE : stE x = 0) (hi : 0 ≤ idx (l.map (·.1)) x.c) :
    Calls Tryd.prog 7 #[.pointer (some ⟨g, 0, none⟩), .agg #[.string x.c, .string x.f, .int .i64 x.t, .int .i64 x.h, .int .i64 x.b]] w fun e w' => e = .returned (.int .i64 7) ∧ Below w.heap.size w w' := by
  have HC := Lib.hid (fun W => Check_any x W h1 h2)
  rw [hE] at HC
  have HI := Lib.hid (fun (W : World) (hW : Below w.heap.size w W) => index_any (hB.below hW).a x.c (by rw [List.length_map]; omega))
  generalize idx (l.map (·.1)) x.c = r at *
  clear h1 h2 hE hB
  obtain ⟨c, f, t, h, b⟩ := x
  dsimp only at HC HI ⊢
  obtain ⟨W0, hW0, g0, hb0⟩ : ∃ W0, w.alloc (.cells #[.string c, .string f, .int .i64 t, .int .i64 h, .int .i64 b] 24) = W0 ∧ W0.heap[w.heap.size]? = some (.cells #[.string c, .string f, .int .i64 t, .int .i64 h, .int .i64 b] 24 (0, 0)) ∧ Below w.heap.size w W0 :=
    ⟨_, rfl, heap_alloc_new w _, (Below.refl _ w).alloc (by omega) _⟩
  have HG := Lib.hid (And.intro g0 hb0)
  have hv0 : w.heap.size < W0.heap.size := (Array.getElem?_eq_some_iff.1 g0).1
  have k0 := cell_of_row W0 w.heap.size 0 _ 24 (0, 0) g0
  have k1 := cell_of_row W0 w.heap.size 1 _ 24 (0, 0) g0
  have k2 := cell_of_row W0 w.heap.size 2 _ 24 (0, 0) g0
  have k3 := cell_of_row W0 w.heap.size 3 _ 24 (0, 0) g0
  have k4 := cell_of_row W0 w.heap.size 4 _ 24 (0, 0) g0
  clear g0 hb0
  go_enter Tryd.func7, Tryd.ntmps7
  go_wp2_with (first
    | (go_at_call 17; go_loud (refine (HC.out _).mono ?_; rintro e w1 ⟨rfl, hb1⟩; have HB1 := Lib.hid (HG.out.2.trans (hb1.mono (by omega))); have j0 := cell_of_row w1 w.heap.size 0 _ 24 (0, 0) ((hb1.block _ hv0).trans HG.out.1); clear hb1))
    | (go_at_call 18; go_loud (refine (HI.out _ HB1.out).mono ?_; rintro e w2 ⟨rfl, hb2⟩)))
  go_ret
  exact ⟨rfl, HB1.out.trans (hb2.mono HB1.out.size)⟩

set_option maxRecDepth 100000 in
set_option maxHeartbeats 4000000 in
theorem Put_ok {g c : Nat} {A : Option Addr} {l : List Va} {x : Va} {w : World} (hB : BdV g A c l w) (hn : l.length ≤ 15) (h1 : x.1.c.size ≤ maxLen) (h2 : x.1.f.size ≤ maxLen) (hi : idx (l.map (·.1)) x.1.c = -1) :
    Calls Tryd.prog 7 #[.pointer (some ⟨g, 0, none⟩), .agg #[.string x.1.c, .string x.1.f, .int .i64 x.1.t, .int .i64 x.1.h, .int .i64 x.1.b]] w (PutP g A l x w) := by
  have HC := Lib.hid (fun W => Check_any x.1 W h1 h2)
  rw [x.2] at HC
  have HI := Lib.hid (fun (W : World) (hW : Below w.heap.size w W) => index_any (hB.below hW).a x.1.c (by rw [List.length_map]; omega))
  rw [hi] at HI
  have HF := Lib.hid (fun (W : World) (b : Int) (hW : Below w.heap.size w W) => full_any (hB.below hW) b hn)
  have HBd := Lib.hid hB
  have HV : Hid (vaV x = [.string x.1.c, .string x.1.f, .int .i64 x.1.t, .int .i64 x.1.h, .int .i64 x.1.b]) := Lib.hid rfl
  have hgl := hB.a.lt
  clear h1 h2 hB hi
  obtain ⟨xx, hX⟩ : ∃ xx : Va, x = xx := ⟨_, rfl⟩
  rw [hX]
  have HX := Lib.hid hX
  rw [← hX]
  generalize x.1.c = xc at *
  generalize x.1.f = xf at *
  generalize x.1.t = xt at *
  generalize x.1.h = xh at *
  generalize x.1.b = xb at *
  obtain ⟨i24, E0, E1, E2, E3⟩ := info_parts strip_info
  obtain ⟨n, hln⟩ : ∃ n, l.length = n := ⟨_, rfl⟩
  have HL := Lib.hid hln
  rw [hln] at hn
  obtain ⟨W0, hW0, g0, hb0⟩ : ∃ W0, w.alloc (.cells #[.string xc, .string xf, .int .i64 xt, .int .i64 xh, .int .i64 xb] 24) = W0 ∧ W0.heap[w.heap.size]? = some (.cells #[.string xc, .string xf, .int .i64 xt, .int .i64 xh, .int .i64 xb] 24 (0, 0)) ∧ Below w.heap.size w W0 :=
    ⟨_, rfl, heap_alloc_new w _, (Below.refl _ w).alloc (by omega) _⟩
  have HG := Lib.hid (And.intro g0 hb0)
  have hv0 : w.heap.size < W0.heap.size := (Array.getElem?_eq_some_iff.1 g0).1
  have k0 := cell_of_row W0 w.heap.size 0 _ 24 (0, 0) g0
  have k1 := cell_of_row W0 w.heap.size 1 _ 24 (0, 0) g0
  have k2 := cell_of_row W0 w.heap.size 2 _ 24 (0, 0) g0
  have k3 := cell_of_row W0 w.heap.size 3 _ 24 (0, 0) g0
  have k4 := cell_of_row W0 w.heap.size 4 _ 24 (0, 0) g0
  clear g0 hb0 hln hX
  go_enter Tryd.func7, Tryd.ntmps7
  go_wp2_with (first
    | (go_at_call 17; go_loud (refine (HC.out _).mono ?_; rintro e w1 ⟨rfl, hb1⟩; have H1 := Lib.hid (And.intro ((hb1.block _ hv0).trans HG.out.1) (HG.out.2.trans (hb1.mono (by omega)))); have j0 := cell_of_row w1 w.heap.size 0 _ 24 (0, 0) H1.out.1; have hz1 := hb1.size; clear hb1))
    | (go_at_call 18; go_loud (refine (HI.out _ H1.out.2).mono ?_; rintro e w2 ⟨rfl, hb2⟩; have H2 := Lib.hid (And.intro ((hb2.block _ (by omega)).trans H1.out.1) (H1.out.2.trans (hb2.mono (by omega)))); have j4 := cell_of_row w2 w.heap.size 4 _ 24 (0, 0) H2.out.1; have hz2 := hb2.size; clear hb2))
    | (go_at_call 19; go_loud (refine (HF.out _ _ H2.out.2).mono ?_; rintro e w3 ⟨rfl, hb3⟩; have H3 := Lib.hid (And.intro ((hb3.block _ (by omega)).trans H2.out.1) (H2.out.2.trans (hb3.mono (by omega)))); have hz3 := hb3.size; clear hb3)))
  have q0 := cell_of_row w3 w.heap.size 0 _ 24 (0, 0) H3.out.1
  have q1 := cell_of_row w3 w.heap.size 1 _ 24 (0, 0) H3.out.1
  have q2 := cell_of_row w3 w.heap.size 2 _ 24 (0, 0) H3.out.1
  have q3 := cell_of_row w3 w.heap.size 3 _ 24 (0, 0) H3.out.1
  have q4 := cell_of_row w3 w.heap.size 4 _ 24 (0, 0) H3.out.1
  have hL3 := HBd.out.below H3.out.2
  have cg1 := hL3.a.cell
  have fg1 := hL3.a.frozen
  rw [List.length_map] at cg1
  rw [HL.out] at cg1
  have HL3 := Lib.hid hL3
  have hga : ∀ q o, ((w3.drewN q).alloc o).heap[g]? = some (.cells #[.slice A n c] 44 (0, 0)) := fun q o => ((World.grownBy_alloc (w3.drewN q) o none).block g hL3.a.lt (by simp)).trans (by have := hL3.1; rw [HL.out] at this; exact this)
  have ca : ∀ q o, ((w3.drewN q).alloc o).cell? ⟨g, 0, none⟩ = some (.slice A n c) := fun q o => cell_of_row _ g 0 _ 44 (0, 0) (hga q o)
  have hlg1 := hL3.a.lt
  have hvw : w.heap.size < w3.heap.size := by omega
  clear hga hL3
  go_wp2_with fail
  go_region_law (refine step_append_row _ #[.string xc, .string xf, .int .i64 xt, .int .i64 xh, .int .i64 xb] w3.heap.size rfl (.tmp 26) (.tmp 28) 22 rfl (g + 1) 24 i24 _ 5 56 Tryd.underlying22 E0 E1 E2 E3 rfl (by decide) (.slice A n c) n (rowsV vaV l) rfl (by have h9 := HL3.out.2; rw [HL.out] at h9; exact h9.alloc _) rfl (by simp [Value.oneCell']) (by exact heap_alloc_new w3 _) rfl (by omega) (by omega) (by simp; omega) ?_; intro g3 cap3 w4 hown3 hg3 hat3 hlt3; have hb3 : w4.heap[g]? = some (.cells #[.slice A n c] 44 (0, 0)) := (hg3.block g (by exact Nat.lt_of_lt_of_le hlg1 (World.grownBy_alloc w3 _ none).size) (fun e => by have h9 := HL3.out.2; rw [HL.out] at h9; have := (h9.lt g e.symm).1; omega)).trans (((World.grownBy_alloc w3 _ none).block g hlg1 (by simp)).trans (by have h9 := HL3.out.1; rw [HL.out] at h9; exact h9)); have d0 := cell_of_row w4 g 0 _ 44 (0, 0) hb3; have e0 := frozen_of_row w4 g 0 _ 44 hb3)
  all_goals go_wp2
  all_goals go_ret
  all_goals
    have hgr : w3.grownBy w4 (Value.slice A n c).ownBlock := grown_trans (grown_trans (grown_drewN ⟨rfl, rfl, rfl, Nat.le_refl _, fun _ _ _ => rfl⟩ _) (World.grownBy_alloc _ _ _)) hg3
    have hl := HL.out
    subst hl
    have hst := BdV.stored (x := x) HBd.out H3.out.2 (by rw [HV.out]; exact hown3) hgr (by exact hat3.imp id (fun e => by rw [e]; have := H3.out.2.size; simp; omega)) 0
    obtain ⟨A', c', _, f1, f2, f3, f4⟩ := hst
    exact ⟨A', c', rfl, f1, f2, f3, f4⟩
end Go.Proofs.YtadhkncilokdjaaDoor
