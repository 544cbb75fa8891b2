/- Package console: Parse, its memory behind the command's block. -/
import Derived.Test.YtdlifdmnfbjokaaDoorCA4
namespace Go.Proofs.YtdlifdmnfbjokaaDoor
open Go.RowKit
open Go.Lib hiding intOf

theorem split_ps (s : ByteArray) (w : World) (hs : s.size ≤ 1100000) (he : Env w) : 
    Calls Tryd.prog 10 #[.string s, .string { data := #[32] }] ((w.alloc (.cells #[.string { data := #[] }, .string { data := #[] }, .int .i64 0, .string { data := #[] }] 23)).alloc (.cells #[.string { data := #[] }, .string { data := #[] }, .int .i64 0, .string { data := #[] }] 23)) fun e W => e = .returned (.slice (some ⟨w.heap.size + 2, 0, none⟩) (partsB s).length (partsB s).length) ∧ PsF (partsB s) w W := by
  have hb : Below w.heap.size w ((w.alloc zc).alloc zc) := ((Below.refl _ w).alloc (Nat.le_refl _) _).alloc (by rw [size_al]; omega) _
  refine (Split_any s sp ((w.alloc zc).alloc zc) rfl (by omega) (he.below hb)).mono ?_
  rintro e W ⟨rfl, rfl⟩
  refine ⟨by rw [size_al, size_al]; rfl, (PsP.self (partsB s) w).facts⟩

def C4 (B : Nat) (c : Cm) (W : World) : Prop := W.cell? ⟨B, 0, none⟩ = some (.string c.verb) ∧ W.cell? ⟨B, 1, none⟩ = some (.string c.call) ∧ W.cell? ⟨B, 2, none⟩ = some (.int .i64 c.n) ∧ W.cell? ⟨B, 3, none⟩ = some (.string c.fix)
def F4 (B : Nat) (W : World) : Prop := W.frozen? ⟨B, 0, none⟩ = false ∧ W.frozen? ⟨B, 1, none⟩ = false ∧ W.frozen? ⟨B, 2, none⟩ = false ∧ W.frozen? ⟨B, 3, none⟩ = false
theorem C4.on {B : Nat} {c : Cm} {W W2 : World} (h : C4 B c W) (hb : Below W.heap.size W W2) (hB : B < W.heap.size) : C4 B c W2 := by
  obtain ⟨h0, h1, h2, h3⟩ := h
  exact ⟨(hb.cell (p := ⟨B, 0, none⟩) hB).trans h0, (hb.cell (p := ⟨B, 1, none⟩) hB).trans h1, (hb.cell (p := ⟨B, 2, none⟩) hB).trans h2, (hb.cell (p := ⟨B, 3, none⟩) hB).trans h3⟩
theorem F4.on {B : Nat} {W W2 : World} (h : F4 B W) (hb : Below W.heap.size W W2) (hB : B < W.heap.size) : F4 B W2 := by
  obtain ⟨h0, h1, h2, h3⟩ := h
  exact ⟨(hb.frozen (p := ⟨B, 0, none⟩) hB).trans h0, (hb.frozen (p := ⟨B, 1, none⟩) hB).trans h1, (hb.frozen (p := ⟨B, 2, none⟩) hB).trans h2, (hb.frozen (p := ⟨B, 3, none⟩) hB).trans h3⟩
/-- Behind the command's own block C. -/
def PcF (l : List ByteArray) (c : Cm) (C : Nat) (w W : World) : Prop :=
  (w.heap.size + 3 ≤ C ∧ C < W.heap.size) ∧ Below w.heap.size w W ∧ C4 w.heap.size cm0 W ∧ F4 w.heap.size W ∧ C4 (w.heap.size + 1) cm0 W ∧ C4 C c W ∧ F4 C W ∧
  ∀ i, i < l.length → W.cell? ⟨w.heap.size + 2, i, none⟩ = some (.string (pk l i))
theorem PcF.on {l : List ByteArray} {c : Cm} {C : Nat} {w W W2 : World} (h : PcF l c C w W) (hb : Below W.heap.size W W2) : PcF l c C w W2 := by
  obtain ⟨⟨h1, h2⟩, h3, h4, h5, h6, h7, h8, h9⟩ := h
  have := hb.size
  exact ⟨⟨h1, by omega⟩, h3.trans (hb.mono h3.size), h4.on hb (by omega), h5.on hb (by omega), h6.on hb (by omega), h7.on hb h2, h8.on hb h2, fun i hi => (hb.cell (p := ⟨w.heap.size + 2, i, none⟩) (by show w.heap.size + 2 < _; omega)).trans (h9 i hi)⟩
theorem PcF.start {l : List ByteArray} {a b : ByteArray} {w W : World} (h : PsF l w W) :
    PcF l ⟨a, b, 0, .empty⟩ W.heap.size w (W.alloc (.cells #[.string a, .string b, .int .i64 0, .string { data := #[] }] 23)).drew := by
  obtain ⟨h1, h2, h3, h4, h5, h6⟩ := h
  have hb : Below W.heap.size W (W.alloc (.cells #[.string a, .string b, .int .i64 0, .string { data := #[] }] 23)).drew := ((Below.refl _ W).alloc (Nat.le_refl _) _).drew
  have k : ∀ i, (W.alloc (.cells #[.string a, .string b, .int .i64 0, .string { data := #[] }] 23)).drew.cell? ⟨W.heap.size, i, none⟩ = (#[.string a, .string b, .int .i64 0, .string { data := #[] }] : Array Value)[i]? := fun i => World.cell?_alloc_new _ _ _ _
  have f : ∀ i, (W.alloc (.cells #[.string a, .string b, .int .i64 0, .string { data := #[] }] 23)).drew.frozen? ⟨W.heap.size, i, none⟩ = false := fun i => by
    unfold World.frozen? World.alloc World.drew
    dsimp only
    rw [Array.getElem?_push_size]
    simp
  have z : (W.alloc (.cells #[.string a, .string b, .int .i64 0, .string { data := #[] }] 23)).drew.heap.size = W.heap.size + 1 := size_al _ _
  exact ⟨⟨h2, by rw [z]; omega⟩, h1.below.trans (hb.mono (by omega)), C4.on (W := W) (c := cm0) h3 hb (by omega), F4.on (W := W) ⟨h5 0, h5 1, h5 2, h5 3⟩ hb (by omega), C4.on (W := W) (c := cm0) h4 hb (by omega), ⟨k 0, k 1, k 2, k 3⟩, ⟨f 0, f 1, f 2, f 3⟩,
    fun i hi => (hb.cell (p := ⟨w.heap.size + 2, i, none⟩) (by show w.heap.size + 2 < _; omega)).trans (h6 i hi)⟩
theorem set_other {W : World} {B i C j : Nat} {u : Value} (h : B ≠ C ∨ i ≠ j) : (W.setCell ⟨C, j, none⟩ u).cell? ⟨B, i, none⟩ = W.cell? ⟨B, i, none⟩ := by
  refine World.cell?_setCell_other _ _ _ _ ?_
  rintro e
  have e1 := congrArg Addr.block e
  have e2 := congrArg Addr.off e
  dsimp only at e1 e2
  omega
theorem C4.set {B C j : Nat} {c : Cm} {W : World} {u : Value} (h : C4 B c W) (hB : B ≠ C) : C4 B c (W.setCell ⟨C, j, none⟩ u) := by
  obtain ⟨h0, h1, h2, h3⟩ := h
  exact ⟨(set_other (.inl hB)).trans h0, (set_other (.inl hB)).trans h1, (set_other (.inl hB)).trans h2, (set_other (.inl hB)).trans h3⟩
theorem F4.set {B C j : Nat} {W : World} {u : Value} (h : F4 B W) : F4 B (W.setCell ⟨C, j, none⟩ u) := by
  obtain ⟨h0, h1, h2, h3⟩ := h
  unfold F4
  rw [World.frozen?_setCell, World.frozen?_setCell, World.frozen?_setCell, World.frozen?_setCell]
  exact ⟨h0, h1, h2, h3⟩
theorem PcF.setFix {l : List ByteArray} {a b y x : ByteArray} {n : Int} {C : Nat} {w W : World} (h : PcF l ⟨a, b, n, y⟩ C w W) : PcF l ⟨a, b, n, x⟩ C w (W.setCell ⟨C, 3, none⟩ (.string x)) := by
  obtain ⟨⟨h1, h2⟩, h3, h4, h5, h6, ⟨c0, c1, c2, c3⟩, h8, h9⟩ := h
  exact ⟨⟨h1, by rw [World.size_setCell]; exact h2⟩, h3.setCell (by show w.heap.size ≤ C; omega) _, h4.set (by omega), h5.set, h6.set (by omega),
    ⟨(set_other (.inr (by omega))).trans c0, (set_other (.inr (by omega))).trans c1, (set_other (.inr (by omega))).trans c2, World.cell?_setCell_same _ _ _ c3⟩, h8.set, fun i hi => (set_other (.inl (by omega))).trans (h9 i hi)⟩
theorem PcF.setN {l : List ByteArray} {a b y : ByteArray} {n m : Int} {C : Nat} {w W : World} (h : PcF l ⟨a, b, n, y⟩ C w W) : PcF l ⟨a, b, m, y⟩ C w (W.setCell ⟨C, 2, none⟩ (.int .i64 m)) := by
  obtain ⟨⟨h1, h2⟩, h3, h4, h5, h6, ⟨c0, c1, c2, c3⟩, h8, h9⟩ := h
  exact ⟨⟨h1, by rw [World.size_setCell]; exact h2⟩, h3.setCell (by show w.heap.size ≤ C; omega) _, h4.set (by omega), h5.set, h6.set (by omega),
    ⟨(set_other (.inr (by omega))).trans c0, (set_other (.inr (by omega))).trans c1, World.cell?_setCell_same _ _ _ c2, (set_other (.inr (by omega))).trans c3⟩, h8.set, fun i hi => (set_other (.inl (by omega))).trans (h9 i hi)⟩
/-- The result's block is written. -/
def outW (B : Nat) (d : Cm) (W : World) : World := (((W.setCell ⟨B, 0, none⟩ (.string d.verb)).setCell ⟨B, 1, none⟩ (.string d.call)).setCell ⟨B, 2, none⟩ (.int .i64 d.n)).setCell ⟨B, 3, none⟩ (.string d.fix)
theorem out_ps {B : Nat} {c : Cm} {w W : World} (h : C4 B c W) (hB : w.heap.size ≤ B) (hb : Below w.heap.size w W) (d : Cm) : C4 B d (outW B d W) ∧ Below w.heap.size w (outW B d W) := by
  obtain ⟨c0, c1, c2, c3⟩ := h
  refine ⟨⟨?_, ?_, ?_, ?_⟩, (((hb.setCell hB _).setCell hB _).setCell hB _).setCell hB _⟩
  · exact (set_other (.inr (by omega))).trans ((set_other (.inr (by omega))).trans ((set_other (.inr (by omega))).trans (World.cell?_setCell_same _ _ _ c0)))
  · exact (set_other (.inr (by omega))).trans ((set_other (.inr (by omega))).trans (World.cell?_setCell_same _ _ _ ((set_other (.inr (by omega))).trans c1)))
  · exact (set_other (.inr (by omega))).trans (World.cell?_setCell_same _ _ _ ((set_other (.inr (by omega))).trans ((set_other (.inr (by omega))).trans c2)))
  · exact World.cell?_setCell_same _ _ _ ((set_other (.inr (by omega))).trans ((set_other (.inr (by omega))).trans ((set_other (.inr (by omega))).trans c3)))
/-- The return with the result's block. -/
theorem ret_ps {r : Cm × Int} {w W : World} {A : Act} (h : C4 w.heap.size r.1 W) (hb : Below w.heap.size w W) (h2 : A.tmps.getD 2 undef = .pointer (some ⟨w.heap.size, 0, none⟩)) (h3 : A.tmps.getD 3 undef = .int .i64 r.2) (hd : A.defers = []) :
    bodyPost Tryd.prog Tryd.f6 (PaP r w) Exit.ret A W := by
  obtain ⟨r0, r1, r2, r3⟩ := h
  refine bodyPost_ret (v := .tuple #[cmV r.1, .int .i64 r.2]) ?_ hd ⟨rfl, hb⟩
  unfold cmV
  simp only [Array.getD_eq_getD_getElem?] at h2 h3
  simp [results, Tryd.results6, go_sem, r0, r1, r2, r3, h2, h3]
theorem atoi_no {x : ByteArray} {e : Ending} (hat : ∀ u, atoiAll (bl x) ≠ .ok u) (h : match atoiAll (bl x) with
      | .ok v => e = .returned (.tuple #[.int .i64 v, .nilIface])
      | _ => ∃ v N t, e = .returned (.tuple #[.int .i64 v, .iface t (.pointer (some ⟨N, 0, none⟩))])) : ∃ u N t, e = .returned (.tuple #[.int .i64 u, .iface t (.pointer (some ⟨N, 0, none⟩))]) := by
  rcases hc : atoiAll (bl x) with u | _ | _
  · exact absurd hc (hat u)
  · rw [hc] at h; exact h
  · rw [hc] at h; exact h
theorem atoi_ok {x : ByteArray} {e : Ending} {u : Int} (hat : atoiAll (bl x) = .ok u) (h : match atoiAll (bl x) with
      | .ok v => e = .returned (.tuple #[.int .i64 v, .nilIface])
      | _ => ∃ v N t, e = .returned (.tuple #[.int .i64 v, .iface t (.pointer (some ⟨N, 0, none⟩))])) : e = .returned (.tuple #[.int .i64 u, .nilIface]) := by
  rw [hat] at h; exact h
theorem num_no {x : ByteArray} (hat : ∀ u, atoiAll (bl x) ≠ .ok u) : numP x = none := by
  unfold numP
  rcases hc : atoiAll (bl x) with u | _ | _
  · exact absurd hc (hat u)
  · rfl
  · rfl
theorem num_if {x : ByteArray} {u : Int} (hat : atoiAll (bl x) = .ok u) : numP x = if u < 0 ∨ 6 < x.size ∨ mk (itoa u) ≠ x then none else some u := by
  unfold numP
  rw [hat]
end Go.Proofs.YtdlifdmnfbjokaaDoor
