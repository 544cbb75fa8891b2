/- Package screen: two rows that grow side by side, rows of rows (for the walk of ScreenShifted). -/
import Derived.Test.YtlkdjnmehnibmaaG4
namespace Go.Proofs.Ytlkdjnmehnibmaa
open Go.RowKit

theorem step_append_row {P : Program} {ops : Array Oper} {o : Oper} {a : Act} {K : Act → World → Prop} {Q : Exit → Act → World → Prop} {E : Prop} (W : World) (cs : Array Value) (N : Nat) (hgd : o.guard = none) (s x : Operand) (t : TypeId)
    (ho : o.op = .call { callee := .builtin .append, args := #[s, x], argTypes := #[t, t] })
    (base : Nat) (e : TypeId) (i : TypeInfo) (z : Value) (size bytes : Nat) (ht : P.underlying t = some (.slice e)) (hi : P.info? e = some i) (hz : i.zero = some z)
    (hsize : i.size = size) (hby : i.bytes = bytes) (hzs : z.cells.size = size) (hsz : 0 < size)
    (v : Value) (n : Nat) (xs : List Value) (hs : a.eval s = v) (hown : W.ownsRow base e size v n xs) (hcs : cs.size = size) (h1 : cs.all (·.oneCell') = true) (hN : W.heap[N]? = some (.cells cs e (0, 0)))
    (hx : a.eval x = .slice (some ⟨N, 0, none⟩) 1 1) (hn : n + 1 ≤ 100000000) (hbytes : bytes ≤ 1000) (hbase : base ≤ W.heap.size)
    (h : ∀ g cap w', w'.ownsRow base e size (.slice (some ⟨g, 0, none⟩) (n + 1) cap) (n + 1) (xs ++ cs.toList) → W.grownBy w' v.ownBlock → (v.ownBlock = some g ∨ g = W.heap.size) → g < w'.heap.size →
      K (a.put o.dst (.slice (some ⟨g, 0, none⟩) (n + 1) cap)) w') : if Region.wanted o (yielded ops a.tmps) = true then Oper.wp P o a W K Q else E :=
  step_append_lies W hgd s x t ho base e i z size bytes ht hi hz hsize hby hzs hsz v n xs hs hown ⟨N, 0, none⟩ 1 1 cs.toList hx (by simp [hcs]) (fun j u hu => by
      rw [Addr.add_mid, Nat.zero_add, cell_of_row _ _ _ _ _ _ hN]
      simpa using hu) (fun u hu => (Array.all_eq_true_iff_forall_mem.1 h1) u (by simpa using hu)) (by omega) (by simp only [maxLen]; omega)
    (Nat.le_trans (Nat.mul_le_mul hn hbytes) (by decide)) hbase W.heap.size rfl h

theorem pts_info : (Try.prog.info? 36).map (fun i => (i.zero, i.size, i.bytes)) = some (some (.slice none 0 0), 1, 24) := by kernel_rfl
theorem pt_info : (Try.prog.info? 23).map (fun i => (i.zero, i.size, i.bytes)) = some (some (.agg #[.int .i64 0, .int .i64 0]), 2, 16) := by kernel_rfl

/-- What is kept from W0 on, below B, while rows at B and above grow; a block of two cells besides. -/
structure SS (B : Nat) (W0 W : World) (gb : Nat) : Prop where
  bel : Below B W0 W
  lt : gb < W.heap.size
theorem ss_app {B gb n size : Nat} {W0 W W' : World} {e : TypeId} {v : Value} {xs : List Value} {x y : Value} (hS : Below B W0 W ∧ gb < W.heap.size ∧ W.cell? ⟨gb, 0, none⟩ = some x ∧ W.cell? ⟨gb, 1, none⟩ = some y)
    (hB : B ≤ W0.heap.size) (hown : W.ownsRow B e size v n xs) (hg : W.grownBy W' v.ownBlock) (hne : v.ownBlock ≠ some gb) : Below B W0 W' ∧ gb < W'.heap.size ∧ W'.cell? ⟨gb, 0, none⟩ = some x ∧ W'.cell? ⟨gb, 1, none⟩ = some y := by
  obtain ⟨h1, h2, h3, h4⟩ := hS
  have hb : W'.heap[gb]? = W.heap[gb]? := hg.block gb h2 (Ne.symm hne)
  refine ⟨h1.grown hg (Nat.le_trans hB h1.size) (fun k hk => (hown.lt k hk).1), Nat.lt_of_lt_of_le h2 hg.size, ?_, ?_⟩
  · exact (World.cell?_of_block (w := W) hb).trans h3
  · exact (World.cell?_of_block (w := W) hb).trans h4
theorem ss_below {B gb : Nat} {W0 W W' : World} {x y : Value} (hS : Below B W0 W ∧ gb < W.heap.size ∧ W.cell? ⟨gb, 0, none⟩ = some x ∧ W.cell? ⟨gb, 1, none⟩ = some y)
    (hB : B ≤ W0.heap.size) (hb : True ∧ Below W.heap.size W W') : Below B W0 W' ∧ gb < W'.heap.size ∧ W'.cell? ⟨gb, 0, none⟩ = some x ∧ W'.cell? ⟨gb, 1, none⟩ = some y := by
  obtain ⟨h1, h2, h3, h4⟩ := hS
  exact ⟨h1.trans (hb.2.mono (Nat.le_trans hB h1.size)), Nat.lt_of_lt_of_le h2 hb.2.size, (hb.2.cell (p := ⟨gb, 0, none⟩) h2).trans h3, (hb.2.cell (p := ⟨gb, 1, none⟩) h2).trans h4⟩
theorem ss_alloc {B gb : Nat} {W0 W : World} {x y : Value} (o : Obj) (hB : B ≤ W0.heap.size) (hS : Below B W0 W ∧ gb < W.heap.size ∧ W.cell? ⟨gb, 0, none⟩ = some x ∧ W.cell? ⟨gb, 1, none⟩ = some y) :
    Below B W0 (W.alloc o) ∧ gb < (W.alloc o).heap.size ∧ (W.alloc o).cell? ⟨gb, 0, none⟩ = some x ∧ (W.alloc o).cell? ⟨gb, 1, none⟩ = some y :=
  ss_below hS hB ⟨trivial, (Below.refl _ _).alloc (Nat.le_refl _) _⟩

/-- Two rows of points, of the call's own, apart from each other. -/
structure TW (B : Nat) (wo w : World) (vx vy : Value) (j : Nat) (f g : Nat → Int × Int) : Prop where
  x : w.ownsRow B 23 2 vx j (flatR (ptRow f) j)
  y : w.ownsRow B 23 2 vy j (flatR (ptRow g) j)
  ap : ApartV vx vy
  bel : Below B wo w
theorem TW.nil (B : Nat) (w : World) (f g : Nat → Int × Int) : TW B w w (.slice none 0 0) (.slice none 0 0) 0 f g :=
  ⟨World.ownsRow_nil _ _ _ _, World.ownsRow_nil _ _ _ _, apart_nil, Below.refl _ _⟩
theorem pt_flat (f : Nat → Int × Int) (j : Nat) (a b : Int) (h1 : (f j).1 = a) (h2 : (f j).2 = b) : flatR (ptRow f) j ++ (#[Value.int .i64 a, Value.int .i64 b]).toList = flatR (ptRow f) (j + 1) := by
  rw [flatR_succ]
  subst h1 h2
  rfl

/-- Rows of rows: k of them in each of two lists. -/
structure Bt (w : World) (base : Nat) (va vb : Value) (k : Nat) (N : Nat → Nat) (F G : Nat → Nat → Int × Int) (P : Nat → Option Addr) (C : Nat → Nat) (P' : Nat → Option Addr) (C' : Nat → Nat) : Prop where
  a : w.ownsRow base 36 1 va k ((List.range k).map fun i => .slice (P i) (N i) (C i))
  b : w.ownsRow base 36 1 vb k ((List.range k).map fun i => .slice (P' i) (N i) (C' i))
  ap : ApartV va vb
  r1 : ∀ i, i < k → w.ownsRow base 23 2 (.slice (P i) (N i) (C i)) (N i) (flatR (ptRow (F i)) (N i))
  r2 : ∀ i, i < k → w.ownsRow base 23 2 (.slice (P' i) (N i) (C' i)) (N i) (flatR (ptRow (G i)) (N i))
  a1 : ∀ i, i < k → ApartV va (.slice (P i) (N i) (C i))
  a2 : ∀ i, i < k → ApartV va (.slice (P' i) (N i) (C' i))
  b1 : ∀ i, i < k → ApartV vb (.slice (P i) (N i) (C i))
  b2 : ∀ i, i < k → ApartV vb (.slice (P' i) (N i) (C' i))
theorem Bt.nil (w : World) (base : Nat) (N : Nat → Nat) (F G : Nat → Nat → Int × Int) (P : Nat → Option Addr) (C : Nat → Nat) (P' : Nat → Option Addr) (C' : Nat → Nat) : Bt w base (.slice none 0 0) (.slice none 0 0) 0 N F G P C P' C' :=
  ⟨World.ownsRow_nil _ _ _ _, World.ownsRow_nil _ _ _ _, apart_nil, fun i hi => absurd hi (by omega), fun i hi => absurd hi (by omega), fun i hi => absurd hi (by omega), fun i hi => absurd hi (by omega), fun i hi => absurd hi (by omega), fun i hi => absurd hi (by omega)⟩
theorem Bt.below {w w' : World} {base : Nat} {va vb : Value} {k : Nat} {N : Nat → Nat} {F G : Nat → Nat → Int × Int} {P : Nat → Option Addr} {C : Nat → Nat} {P' : Nat → Option Addr} {C' : Nat → Nat} (h : Bt w base va vb k N F G P C P' C') (hb : Below w.heap.size w w') : Bt w' base va vb k N F G P C P' C' :=
  ⟨own_below h.a hb (Nat.le_refl _), own_below h.b hb (Nat.le_refl _), h.ap, fun i hi => own_below (h.r1 i hi) hb (Nat.le_refl _), fun i hi => own_below (h.r2 i hi) hb (Nat.le_refl _), h.a1, h.a2, h.b1, h.b2⟩

/-- A row that stood before, and one that is new behind it. -/
theorem apart_new {w W : World} {base base' e e' n n' size size' : Nat} {v u : Value} {xs ys : List Value} (h : w.ownsRow base e size v n xs) (h' : W.ownsRow base' e' size' u n' ys) (hb : w.heap.size ≤ base') : ApartV v u := by
  cases hv : v.ownBlock with
  | none => exact .inl hv
  | some k =>
    right; right
    rw [hv]
    intro hu
    have h1 := (h.lt k hv).2
    have h2 := (h'.lt k hu.symm).1
    omega

theorem apart_to {v v' u : Value} {g m cap : Nat} {w : World} {base e n size : Nat} {xs : List Value} (hap : ApartV v u) (hu : w.ownsRow base e size u n xs) (hat : v.ownBlock = some g ∨ w.heap.size ≤ g) (hv' : v' = .slice (some ⟨g, 0, none⟩) m cap) : ApartV v' u := by
  subst hv'
  cases hub : u.ownBlock with
  | none => exact .inr (.inl hub)
  | some k =>
    right; right
    rw [hub]
    intro hk
    have hk : g = k := by simpa [Value.ownBlock] using hk
    subst hk
    rcases hat with hat | hat
    · rcases hap with h | h | h
      · rw [h] at hat; cases hat
      · rw [h] at hub; cases hub
      · exact h (hat.trans hub.symm)
    · have := (hu.lt g hub).2
      omega

theorem Bt.push {W0 W w1 w2 : World} {base : Nat} {va vb : Value} {k : Nat} {N : Nat → Nat} {F G : Nat → Nat → Int × Int} {P : Nat → Option Addr} {C : Nat → Nat} {P' : Nat → Option Addr} {C' : Nat → Nat} (h : Bt W0 base va vb k N F G P C P' C') (hbase : base ≤ W0.heap.size)
    {X Y : Option Addr} {n cx cy : Nat} (hT : TW W0.heap.size W0 W (.slice X n cx) (.slice Y n cy) n (F k) (G k)) (hn : N k = n)
    {g g' cap cap' : Nat} (h1 : w1.ownsRow base 36 1 (.slice (some ⟨g, 0, none⟩) (k + 1) cap) (k + 1) (((List.range k).map fun i => Value.slice (P i) (N i) (C i)) ++ (#[Value.slice X n cx]).toList)) (g1 : (W.alloc (.cells #[.slice X n cx] 36)).grownBy w1 va.ownBlock) (t1 : va.ownBlock = some g ∨ g = W.heap.size + 1)
    (h2 : w2.ownsRow base 36 1 (.slice (some ⟨g', 0, none⟩) (k + 1) cap') (k + 1) (((List.range k).map fun i => Value.slice (P' i) (N i) (C' i)) ++ (#[Value.slice Y n cy]).toList)) (g2 : (w1.alloc (.cells #[.slice Y n cy] 36)).grownBy w2 vb.ownBlock) (t2 : vb.ownBlock = some g' ∨ g' = w1.heap.size + 1) :
    ∃ P1 C1 P2 C2, Bt w2 base (.slice (some ⟨g, 0, none⟩) (k + 1) cap) (.slice (some ⟨g', 0, none⟩) (k + 1) cap') (k + 1) N F G P1 C1 P2 C2 := by
  have hW := h.below hT.bel
  have hXY1 : ApartV va (.slice X n cx) := apart_new h.a hT.x (Nat.le_refl _)
  have hXY2 : ApartV va (.slice Y n cy) := apart_new h.a hT.y (Nat.le_refl _)
  have hXY3 : ApartV vb (.slice X n cx) := apart_new h.b hT.x (Nat.le_refl _)
  have hXY4 : ApartV vb (.slice Y n cy) := apart_new h.b hT.y (Nat.le_refl _)
  have hxb := own_mono hT.x hbase
  have hyb := own_mono hT.y hbase
  -- through the first append
  have K1 : ∀ {e size m u xs}, W.ownsRow base e size u m xs → ApartV va u → w1.ownsRow base e size u m xs := fun hu ha => own_apart (hu.alloc _) g1 rfl ha
  have A1 : ∀ {e size m u xs}, W.ownsRow base e size u m xs → ApartV va u → ApartV (.slice (some ⟨g, 0, none⟩) (k + 1) cap) u := fun hu ha => apart_to ha hu (t1.imp id fun x => by omega) rfl
  have K2 : ∀ {e size m u xs}, w1.ownsRow base e size u m xs → ApartV vb u → w2.ownsRow base e size u m xs := fun hu ha => own_apart (hu.alloc _) g2 rfl ha
  have A2 : ∀ {e size m u xs}, w1.ownsRow base e size u m xs → ApartV vb u → ApartV (.slice (some ⟨g', 0, none⟩) (k + 1) cap') u := fun hu ha => apart_to ha hu (t2.imp id fun x => by omega) rfl
  have hb1 := K1 hW.b hW.ap
  have hab1 : ApartV (.slice (some ⟨g, 0, none⟩) (k + 1) cap) vb := A1 hW.b hW.ap
  have sel : ∀ {i : Nat} {α : Type} (x : α) (f : Nat → α), i ≠ k → (if i = k then x else f i) = f i := fun x f hi => if_neg hi
  refine ⟨fun i => if i = k then X else P i, fun i => if i = k then cx else C i, fun i => if i = k then Y else P' i, fun i => if i = k then cy else C' i, ?_⟩
  refine ⟨?_, ?_, ?_, ?_, ?_, ?_, ?_, ?_, ?_⟩
  · have h1' := K2 h1 hab1.symm
    have e : (((List.range k).map fun i => Value.slice (P i) (N i) (C i)) ++ (#[Value.slice X n cx]).toList) = (List.range (k + 1)).map fun i => Value.slice (if i = k then X else P i) (N i) (if i = k then cx else C i) := by
      rw [List.range_succ, List.map_append]
      congr 1
      · exact List.map_congr_left fun i hi => by
          have : i ≠ k := by have := List.mem_range.1 hi; omega
          simp only [if_neg this]
      · simp [hn]
    rw [← e]; exact h1'
  · have e : (((List.range k).map fun i => Value.slice (P' i) (N i) (C' i)) ++ (#[Value.slice Y n cy]).toList) = (List.range (k + 1)).map fun i => Value.slice (if i = k then Y else P' i) (N i) (if i = k then cy else C' i) := by
      rw [List.range_succ, List.map_append]
      congr 1
      · exact List.map_congr_left fun i hi => by
          have : i ≠ k := by have := List.mem_range.1 hi; omega
          simp only [if_neg this]
      · simp [hn]
    rw [← e]; exact h2
  · exact (A2 h1 hab1.symm).symm
  · intro i hi
    by_cases e : i = k
    · subst e; simp only [if_pos, hn]; exact K2 (K1 hxb hXY1) hXY3
    · simp only [if_neg e]; exact K2 (K1 (hW.r1 i (by omega)) (h.a1 i (by omega))) (h.b1 i (by omega))
  · intro i hi
    by_cases e : i = k
    · subst e; simp only [if_pos, hn]; exact K2 (K1 hyb hXY2) hXY4
    · simp only [if_neg e]; exact K2 (K1 (hW.r2 i (by omega)) (h.a2 i (by omega))) (h.b2 i (by omega))
  · intro i hi
    by_cases e : i = k
    · subst e; simp only [if_pos, hn]; exact A1 hxb hXY1
    · simp only [if_neg e]; exact A1 (hW.r1 i (by omega)) (h.a1 i (by omega))
  · intro i hi
    by_cases e : i = k
    · subst e; simp only [if_pos, hn]; exact A1 hyb hXY2
    · simp only [if_neg e]; exact A1 (hW.r2 i (by omega)) (h.a2 i (by omega))
  · intro i hi
    by_cases e : i = k
    · subst e; simp only [if_pos, hn]; exact A2 (K1 hxb hXY1) hXY3
    · simp only [if_neg e]; exact A2 (K1 (hW.r1 i (by omega)) (h.a1 i (by omega))) (h.b1 i (by omega))
  · intro i hi
    by_cases e : i = k
    · subst e; simp only [if_pos, hn]; exact A2 (K1 hyb hXY2) hXY4
    · simp only [if_neg e]; exact A2 (K1 (hW.r2 i (by omega)) (h.a2 i (by omega))) (h.b2 i (by omega))

/-- The lists as polygons handed in. -/
theorem Bt.polys {w : World} {base : Nat} {A B : Option Addr} {ca cb : Nat} {k : Nat} {N : Nat → Nat} {F G : Nat → Nat → Int × Int} {P : Nat → Option Addr} {C : Nat → Nat} {P' : Nat → Option Addr} {C' : Nat → Nat} (h : Bt w base (.slice A k ca) (.slice B k cb) k N F G P C P' C')
    (hN : ∀ i, i < k → N i ≤ 16) (hF : ∀ i, i < k → ∀ j, j < N i → PtOk (F i j)) (hG : ∀ i, i < k → ∀ j, j < N i → PtOk (G i j)) : Polys w w.heap.size A k N F ∧ Polys w w.heap.size B k N G := by
  have e : ∀ (P : Nat → Option Addr) (C : Nat → Nat), ((List.range k).map fun i => Value.slice (P i) (N i) (C i)) = flatR (fun i => [Value.slice (P i) (N i) (C i)]) k := fun P C => by
    unfold flatR
    generalize List.range k = l
    induction l with
    | nil => rfl
    | cons a l ih => rw [List.map_cons, List.flatMap_cons, ih]; rfl
  refine ⟨⟨⟨P, C, Sl_flat (e := 36) (fun _ _ => rfl) (by rw [← e]; exact h.a), fun i hi => Sl_flat (e := 23) (fun _ _ => rfl) (h.r1 i hi)⟩, hN, hF⟩, ⟨⟨P', C', Sl_flat (e := 36) (fun _ _ => rfl) (by rw [← e]; exact h.b), fun i hi => Sl_flat (e := 23) (fun _ _ => rfl) (h.r2 i hi)⟩, hN, hG⟩⟩
theorem Sl_strs {w : World} {base n c : Nat} {A : Option Addr} {S : Nat → ByteArray} (h : w.ownsRow base 9 1 (.slice A n c) n ((List.range n).map fun k => .string (S k))) : Sl w w.heap.size 1 A n (fun i => [.string (S i)]) := by
  refine Sl_flat (e := 9) (base := base) (c := c) (fun _ _ => rfl) ?_
  have e : ((List.range n).map fun k => Value.string (S k)) = flatR (fun i => [Value.string (S i)]) n := by
    unfold flatR
    generalize List.range n = l
    induction l with
    | nil => rfl
    | cons a l ih => rw [List.map_cons, List.flatMap_cons, ih]; rfl
  rw [← e]; exact h
end Go.Proofs.Ytlkdjnmehnibmaa
