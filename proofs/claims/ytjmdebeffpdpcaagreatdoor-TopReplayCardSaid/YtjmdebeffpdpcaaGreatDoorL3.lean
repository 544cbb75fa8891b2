/- Package record: Add, whatever it does; what a sound log is. -/
import Derived.Test.YtjmdebeffpdpcaaGreatDoorL1
namespace Go.Proofs.YtjmdebeffpdpcaaGreatDoor
open Go.RowKit
open Go.Lib hiding intOf

section
variable {P : Program}
/-- One element of several cells is appended, at a step of a region that draws its order; the block that holds it may lie anywhere. -/
theorem step_append_row {ops : Array Oper} {o : Oper} {a : Act} {K : Act → World → Prop} {Q : Exit → Act → World → Prop} {E : Prop} (W : World) (cs : Array Value) (N : Nat) (hgd : o.guard = none) (s x : Operand) (t : TypeId)
    (ho : o.op = .call { callee := .builtin .append, args := #[s, x], argTypes := #[t, t] })
    (base : Nat) (e : TypeId) (i : TypeInfo) (z : Value) (size bytes : Nat) (ht : P.underlying t = some (.slice e)) (hi : P.info? e = some i) (hz : i.zero = some z)
    (hsize : i.size = size) (hby : i.bytes = bytes) (hzs : z.cells.size = size) (hsz : 0 < size)
    (v : Value) (n : Nat) (xs : List Value) (hs : a.eval s = v) (hown : W.ownsRow base e size v n xs) (hcs : cs.size = size) (h1 : cs.all (·.oneCell') = true) (hN : W.heap[N]? = some (.cells cs e (0, 0)))
    (hx : a.eval x = .slice (some ⟨N, 0, none⟩) 1 1) (hn : n + 1 ≤ 100000000) (hbytes : bytes ≤ 1000) (hbase : base ≤ W.heap.size)
    (h : ∀ g cap w', w'.ownsRow base e size (.slice (some ⟨g, 0, none⟩) (n + 1) cap) (n + 1) (xs ++ cs.toList) → W.grownBy w' v.ownBlock → (v.ownBlock = some g ∨ g = W.heap.size) → g < w'.heap.size →
      K (a.put o.dst (.slice (some ⟨g, 0, none⟩) (n + 1) cap)) w') : if Region.wanted o (yielded ops a.tmps) = true then Oper.wp P o a W K Q else E :=
  step_append_lies W hgd s x t ho base e i z size bytes ht hi hz hsize hby hzs hsz v n xs hs hown ⟨N, 0, none⟩ 1 1 cs.toList hx (by simp [hcs]) (fun j u hu => by
      rw [Addr.add_mid, Nat.zero_add, cell_of_row _ _ _ _ _ _ hN]
      simpa using hu) (fun u hu => (Array.all_eq_true_iff_forall_mem.1 h1) u (by simpa using hu)) (by omega) (by simp only [maxLen]; omega)
    (Nat.le_trans (Nat.mul_le_mul hn hbytes) (by decide)) hbase W.heap.size rfl h
end

theorem last_some {l : List Ent} (h : 0 < l.length) : ∃ e, l[l.length - 1]? = some e ∧ lastT l = e.time := by
  refine ⟨l[l.length - 1], List.getElem?_eq_getElem (by omega), ?_⟩
  unfold lastT
  rw [List.getElem?_eq_getElem (by omega)]
  rfl

/-- What a successful Add leaves. -/
def AddP (g : Nat) (A : Option Addr) (l : List Ent) (e : Ent) (w : World) (y : Ending) (w' : World) : Prop :=
  ∃ A' c', y = .returned (.tuple #[.int .i64 ((l.length : Int) + 1), .int .i64 0]) ∧ LogA g A' c' (l ++ [e]) w' ∧ Below g w w' ∧ OffLog g A w w' ∧ (∀ a, A' = some a → (∃ a0, A = some a0 ∧ a0.block = a.block) ∨ w.heap.size ≤ a.block)

/-- The log behind an append and a store. -/
theorem LogA.stored {g c : Nat} {A : Option Addr} {l : List Ent} {w W w3 : World} {g3 cap3 : Nat} {e : Ent} (h0 : LogA g A c l w) (hbW : Below w.heap.size w W)
    (hown3 : w3.ownsRow (g + 1) 48 4 (.slice (some ⟨g3, 0, none⟩) (l.length + 1) cap3) (l.length + 1) (l.flatMap rowE ++ rowE e)) (hg3 : W.grownBy w3 (Value.slice A l.length c).ownBlock) (hat : (Value.slice A l.length c).ownBlock = some g3 ∨ w.heap.size ≤ g3) (q : Nat) :
    AddP g A l e w (.returned (.tuple #[.int .i64 ((l.length : Int) + 1), .int .i64 0])) ((w3.setCell ⟨g, 0, none⟩ (.slice (some ⟨g3, 0, none⟩) (l.length + 1) cap3)).drewN q) := by
  have hlt := h0.lt
  have hW := h0.below hbW
  have hne : (Value.slice A l.length c).ownBlock ≠ some g := fun x => by have := (h0.2.lt g x).1; omega
  have hb3 : w3.heap[g]? = some (.cells #[.slice A l.length c] 56 (0, 0)) := (hg3.block g hW.lt (fun x => hne x.symm)).trans hW.1
  have hS := grown_setCell w3 g 0 (.slice (some ⟨g3, 0, none⟩) (l.length + 1) cap3)
  have hs3 : w.heap.size ≤ w3.heap.size := Nat.le_trans hbW.size hg3.size
  refine ⟨some ⟨g3, 0, none⟩, cap3, rfl, ⟨?_, ?_⟩, ?_, fun k hk hkg hA => ?_, fun a ha => ?_⟩
  · rw [List.length_append, List.length_singleton]
    exact heap_setCell_same _ _ _ _ _ _ hb3
  · rw [List.length_append, List.length_singleton, List.flatMap_append]
    rw [show [e].flatMap rowE = rowE e by simp]
    exact hown3.kept (grown_drewN hS q) (.inr fun x => by have := (hown3.lt g x).1; omega)
  · refine below_drewN (((hbW.mono (Nat.le_of_lt hlt)).grown hg3 (by have := hbW.size; omega) (fun k x => ?_)).setCell (p := ⟨g, 0, none⟩) (Nat.le_refl _) _) q
    have := (h0.2.lt k x).1; omega
  · show (w3.setCell ⟨g, 0, none⟩ _).heap[k]? = _
    refine (hS.block k (by omega) (fun x => hkg (by cases x; rfl))).trans ((hg3.block k (Nat.lt_of_lt_of_le hk hbW.size) (fun x => ?_)).trans (hbW.block k hk))
    cases A with
    | none => simp [Value.ownBlock] at x
    | some a => exact hA a rfl (by simpa [Value.ownBlock] using x.symm)
  · cases ha
    rcases hat with x | x
    · cases A with
      | none => simp [Value.ownBlock] at x
      | some a => exact .inl ⟨a, rfl, by simpa [Value.ownBlock] using x⟩
    · exact .inr x

set_option maxRecDepth 100000 in
set_option maxHeartbeats 4000000 in
theorem Add_ok {g c : Nat} {A : Option Addr} {l : List Ent} {w : World} (h : LogA g A c l w) (t : Int) (k x : ByteArray) (hw : Wf (newE l t k x)) (hc : addC l t k x = 0) (hl : l.length ≤ 400) :
    Calls Tryz.prog 18 #[.pointer (some ⟨g, 0, none⟩), .int .i64 t, .string k, .string x] w (AddP g A l (newE l t k x) w) := by
  have hck : chk (newE l t k x) = 0 := by
    unfold addC at hc
    by_cases h0 : chk (newE l t k x) = 0
    · exact h0
    · rw [if_pos h0] at hc; exact absurd hc h0
  have hlast : ¬ (0 < l.length ∧ t < lastT l) := by
    unfold addC at hc
    rw [if_neg (by simp [hck])] at hc
    intro h1
    rw [if_pos h1] at hc
    cases hc
  have HC := Lib.hid (fun W => CheckE_any _ W hw)
  rw [hck] at HC
  unfold valE newE at HC
  simp only at HC
  have HL := Lib.hid h
  have cg := h.cell
  have hg := h.lt
  obtain ⟨i0, J0, J1, J2, J3⟩ := info_parts ent_info
  have hn5 : ¬ l.length = 500 := by omega
  have hbn : Below w.heap.size w (w.alloc (.cells #[.int .i64 ((l.length : Int) + 1), .int .i64 t, .string k, .string x] 48)) := (Below.refl _ _).alloc (Nat.le_refl _) _
  have HBn := Lib.hid hbn
  have hnew := heap_alloc_new w (.cells #[.int .i64 ((l.length : Int) + 1), .int .i64 t, .string k, .string x] 48)
  have HNew := Lib.hid hnew
  have hts : (w.alloc (.cells #[.int .i64 ((l.length : Int) + 1), .int .i64 t, .string k, .string x] 48)).heap.size = w.heap.size + 1 := World.size_alloc _ _
  have HTs := Lib.hid hts
  clear hbn hnew hts hc hck h
  by_cases hz : l.length = 0
  · have hz0 : ¬ 0 < l.length := by omega
    have HZ := Lib.hid hz
    clear hlast hz
    go_enter Tryz.func18, Tryz.ntmps18
    go_wp2_with fail
    refine (HC.out _).mono ?_
    rintro e w1 ⟨rfl, hb1⟩
    have K1 := (HBn.out.block)
    have hh1 : w1.heap[w.heap.size]? = some (.cells #[.int .i64 ((l.length : Int) + 1), .int .i64 t, .string k, .string x] 48 (0, 0)) := (hb1.block w.heap.size (by rw [HTs.out]; omega)).trans HNew.out
    have hB1 : Below w.heap.size w w1 := HBn.out.trans (hb1.mono (by rw [HTs.out]; omega))
    have hL1 := HL.out.below hB1
    have hz1 : w.heap.size < w1.heap.size := by have := hb1.size; rw [HTs.out] at this; omega
    have q0 := cell_of_row _ _ 0 _ _ _ hh1
    have q1 := cell_of_row _ _ 1 _ _ _ hh1
    have q2 := cell_of_row _ _ 2 _ _ _ hh1
    have q3 := cell_of_row _ _ 3 _ _ _ hh1
    have cg1 := hL1.cell
    have fg1 := hL1.frozen
    have HL1 := Lib.hid hL1
    have HB1 := Lib.hid hB1
    have hga : ∀ q o, ((w1.drewN q).alloc o).heap[g]? = some (.cells #[.slice A l.length c] 56 (0, 0)) := fun q o => ((World.grownBy_alloc (w1.drewN q) o none).block g hL1.lt (by simp)).trans hL1.1
    have ca : ∀ q o, ((w1.drewN q).alloc o).cell? ⟨g, 0, none⟩ = some (.slice A l.length c) := fun q o => cell_of_row _ g 0 _ 56 (0, 0) (hga q o)
    have hlg1 := hL1.lt
    clear hga hL1 hB1 hb1 hh1
    go_wp2_with fail
    go_region_law (refine step_append_row _ #[.int .i64 ((l.length : Int) + 1), .int .i64 t, .string k, .string x] w1.heap.size rfl (.tmp 50) (.tmp 52) 22 rfl (g + 1) 48 i0 _ 4 48 Tryz.underlying22 J0 J1 J2 J3 rfl (by decide) (.slice A l.length c) l.length (l.flatMap rowE) rfl (HL1.out.2.alloc _) rfl (by simp [Value.oneCell']) (by exact heap_alloc_new w1 _) rfl (by omega) (by omega) (by simp; omega) ?_; intro g3 cap3 w3 hown3 hg3 hat3 hlt3; have hb3 : w3.heap[g]? = some (.cells #[.slice A l.length c] 56 (0, 0)) := (hg3.block g (by exact Nat.lt_of_lt_of_le hlg1 (World.grownBy_alloc w1 _ none).size) (fun e => by have := (HL1.out.2.lt g e.symm).1; omega)).trans (((World.grownBy_alloc w1 _ none).block g hlg1 (by simp)).trans HL1.out.1); have d0 := cell_of_row w3 g 0 _ 56 (0, 0) hb3; have e0 := frozen_of_row w3 g 0 _ 56 hb3)
    all_goals go_wp2
    all_goals go_ret2
    all_goals
      have hgr : w1.grownBy w3 (Value.slice A l.length c).ownBlock := grown_trans (grown_trans (grown_drewN ⟨rfl, rfl, rfl, Nat.le_refl _, fun _ _ _ => rfl⟩ _) (World.grownBy_alloc _ _ _)) hg3
      have hst := LogA.stored (e := newE l t k x) HL.out HB1.out (by exact hown3) hgr (by exact hat3.imp id (fun e => by rw [e]; have := HB1.out.size; simp; omega)) 0
      obtain ⟨A', c', _, f1, f2, f3, f4⟩ := hst
      exact ⟨A', c', rfl, f1, f2, f3, f4⟩
  · obtain ⟨e, he, hle⟩ := last_some (l := l) (by omega)
    obtain ⟨m, hm⟩ : ∃ m, l.length - 1 = m := ⟨_, rfl⟩
    have hlt : ¬ t < e.time := by rw [← hle]; intro h1; exact hlast ⟨by omega, h1⟩
    rw [hm] at he
    have hz0 : 0 < l.length := by omega
    have hji : (l.length : Int) - 1 = (m : Int) := by omega
    have hiw : IntKind.i64.wrap (m : Int) = (m : Int) := IntWalk.i64_in _ (by omega)
    have hm0 : (0 : Int) ≤ (m : Int) := by omega
    have hml : m < l.length := by omega
    have hml' : (m : Int) < (l.length : Int) := by omega
    have dl : decide (t < e.time) = false := by simp; omega
    clear hlast hz hle hm
    go_enter Tryz.func18, Tryz.ntmps18
    go_wp2_with fail
    refine (HC.out _).mono ?_
    rintro e' w1 ⟨rfl, hb1⟩
    have K1 := (HBn.out.block)
    have hh1 : w1.heap[w.heap.size]? = some (.cells #[.int .i64 ((l.length : Int) + 1), .int .i64 t, .string k, .string x] 48 (0, 0)) := (hb1.block w.heap.size (by rw [HTs.out]; omega)).trans HNew.out
    have hB1 : Below w.heap.size w w1 := HBn.out.trans (hb1.mono (by rw [HTs.out]; omega))
    have hL1 := HL.out.below hB1
    have hz1 : w.heap.size < w1.heap.size := by have := hb1.size; rw [HTs.out] at this; omega
    have q0 := cell_of_row _ _ 0 _ _ _ hh1
    have q1 := cell_of_row _ _ 1 _ _ _ hh1
    have q2 := cell_of_row _ _ 2 _ _ _ hh1
    have q3 := cell_of_row _ _ 3 _ _ _ hh1
    have cg1 := hL1.cell
    have fg1 := hL1.frozen
    obtain ⟨b, hAb, hgb, hbl, _, q5, _, _⟩ := hL1.ent he
    subst hAb
    have HL1 := Lib.hid hL1
    have HB1 := Lib.hid hB1
    have hga : ∀ q o, ((w1.drewN q).alloc o).heap[g]? = some (.cells #[.slice (some ⟨b, 0, none⟩) l.length c] 56 (0, 0)) := fun q o => ((World.grownBy_alloc (w1.drewN q) o none).block g hL1.lt (by simp)).trans hL1.1
    have ca : ∀ q o, ((w1.drewN q).alloc o).cell? ⟨g, 0, none⟩ = some (.slice (some ⟨b, 0, none⟩) l.length c) := fun q o => cell_of_row _ g 0 _ 56 (0, 0) (hga q o)
    have hlg1 := hL1.lt
    clear hga hL1 hB1 hb1 hh1
    go_wp2_with fail
    go_region_law (refine step_append_row _ #[.int .i64 ((l.length : Int) + 1), .int .i64 t, .string k, .string x] w1.heap.size rfl (.tmp 50) (.tmp 52) 22 rfl (g + 1) 48 i0 _ 4 48 Tryz.underlying22 J0 J1 J2 J3 rfl (by decide) (.slice (some ⟨b, 0, none⟩) l.length c) l.length (l.flatMap rowE) rfl (HL1.out.2.alloc _) rfl (by simp [Value.oneCell']) (by exact heap_alloc_new w1 _) rfl (by omega) (by omega) (by simp; omega) ?_; intro g3 cap3 w3 hown3 hg3 hat3 hlt3; have hb3 : w3.heap[g]? = some (.cells #[.slice (some ⟨b, 0, none⟩) l.length c] 56 (0, 0)) := (hg3.block g (by exact Nat.lt_of_lt_of_le hlg1 (World.grownBy_alloc w1 _ none).size) (fun e => by have := (HL1.out.2.lt g e.symm).1; omega)).trans (((World.grownBy_alloc w1 _ none).block g hlg1 (by simp)).trans HL1.out.1); have d0 := cell_of_row w3 g 0 _ 56 (0, 0) hb3; have e0 := frozen_of_row w3 g 0 _ 56 hb3)
    all_goals go_wp2
    all_goals go_ret2
    all_goals
      have hgr : w1.grownBy w3 (Value.slice (some ⟨b, 0, none⟩) l.length c).ownBlock := grown_trans (grown_trans (grown_drewN ⟨rfl, rfl, rfl, Nat.le_refl _, fun _ _ _ => rfl⟩ _) (World.grownBy_alloc _ _ _)) hg3
      have hst := LogA.stored (e := newE l t k x) HL.out HB1.out (by exact hown3) hgr (by exact hat3.imp id (fun e => by rw [e]; have := HB1.out.size; simp; omega)) 0
      obtain ⟨A', c', _, f1, f2, f3, f4⟩ := hst
      exact ⟨A', c', rfl, f1, f2, f3, f4⟩
end Go.Proofs.YtjmdebeffpdpcaaGreatDoor

namespace Go.Proofs.YtjmdebeffpdpcaaGreatDoor
open Go.RowKit
open Go.Lib hiding intOf

def NoAdd (cd : Int) (w : World) (y : Ending) (w' : World) : Prop := y = .returned (.tuple #[.int .i64 0, .int .i64 cd]) ∧ Below w.heap.size w w'

set_option maxRecDepth 100000 in
set_option maxHeartbeats 4000000 in
theorem Add_no {g c : Nat} {A : Option Addr} {l : List Ent} {w : World} (h : LogA g A c l w) (t : Int) (k x : ByteArray) (hw : Wf (newE l t k x)) (hc : addC l t k x ≠ 0) (hl : l.length ≤ 400) :
    Calls Tryz.prog 18 #[.pointer (some ⟨g, 0, none⟩), .int .i64 t, .string k, .string x] w (NoAdd (addC l t k x) w) := by
  have HC := Lib.hid (fun W => CheckE_any _ W hw)
  unfold valE at HC
  have cg := h.cell
  have hg := h.lt
  have hn5 : ¬ l.length = 500 := by omega
  have hbn : Below w.heap.size w (w.alloc (.cells #[.int .i64 ((l.length : Int) + 1), .int .i64 t, .string k, .string x] 48)) := (Below.refl _ _).alloc (Nat.le_refl _) _
  have HBn := Lib.hid hbn
  have hts : (w.alloc (.cells #[.int .i64 ((l.length : Int) + 1), .int .i64 t, .string k, .string x] 48)).heap.size = w.heap.size + 1 := World.size_alloc _ _
  have HTs := Lib.hid hts
  have HL := Lib.hid h
  by_cases h0 : chk (newE l t k x) = 0
  · have hlt2 : 0 < l.length ∧ t < lastT l := by
      unfold addC at hc
      rw [if_neg (by simp [h0])] at hc
      by_cases h1 : 0 < l.length ∧ t < lastT l
      · exact h1
      · rw [if_neg h1] at hc; exact absurd rfl hc
    have hcd : addC l t k x = 12 := by unfold addC; rw [if_neg (by simp [h0]), if_pos hlt2]
    rw [h0] at HC
    rw [hcd]
    unfold newE at HC
    simp only at HC
    obtain ⟨e, he, hle⟩ := last_some hlt2.1
    obtain ⟨m, hm⟩ : ∃ m, l.length - 1 = m := ⟨_, rfl⟩
    have hlt : t < e.time := by rw [← hle]; exact hlt2.2
    rw [hm] at he
    have hz0 : 0 < l.length := hlt2.1
    have hji : (l.length : Int) - 1 = (m : Int) := by omega
    have hiw : IntKind.i64.wrap (m : Int) = (m : Int) := IntWalk.i64_in _ (by omega)
    have hm0 : (0 : Int) ≤ (m : Int) := by omega
    have hml' : (m : Int) < (l.length : Int) := by omega
    have hml : m < l.length := by omega
    have dl : decide (t < e.time) = true := by simp; omega
    clear hbn hts hc h0 hlt2 hcd hle hm h
    go_enter Tryz.func18, Tryz.ntmps18
    go_wp2_with fail
    refine (HC.out _).mono ?_
    rintro e' w1 ⟨rfl, hb1⟩
    have hB1 : Below w.heap.size w w1 := HBn.out.trans (hb1.mono (by rw [HTs.out]; omega))
    have hL1 := HL.out.below hB1
    have cg1 := hL1.cell
    obtain ⟨b, hAb, hgb, hbl, _, q5, _, _⟩ := hL1.ent he
    subst hAb
    have HB1 := Lib.hid hB1
    clear hL1 hB1 hb1
    go_wp2
    go_ret2
    exact ⟨rfl, HB1.out⟩
  · have hcd : addC l t k x = chk (newE l t k x) := by unfold addC; rw [if_pos h0]
    rw [hcd]
    obtain ⟨cd, hcc⟩ : ∃ cd, chk (newE l t k x) = cd := ⟨_, rfl⟩
    rw [hcc] at HC h0 ⊢
    have d2 : (cd != 0) = true := by simp [h0]
    unfold newE at HC
    simp only at HC
    clear hbn hts hc h0 hcd hcc h
    go_enter Tryz.func18, Tryz.ntmps18
    go_wp2_with fail
    refine (HC.out _).mono ?_
    rintro e' w1 ⟨rfl, hb1⟩
    have hB1 : Below w.heap.size w w1 := HBn.out.trans (hb1.mono (by rw [HTs.out]; omega))
    go_wp2
    go_ret2
    exact ⟨rfl, hB1⟩

/-- A sound log: its entries have their numbers, and the times do not decrease. -/
def LogOk (l : List Ent) : Prop := (∀ (i : Nat) (e : Ent), l[i]? = some e → e.num = (i : Int) + 1 ∧ Ok e) ∧ ∀ (i : Nat) (e e' : Ent), l[i]? = some e → l[i + 1]? = some e' → e.time ≤ e'.time

theorem LogOk.nil : LogOk [] := ⟨fun i e h => by simp at h, fun i e e' h => by simp at h⟩

theorem LogOk.snoc {l : List Ent} {e : Ent} (h : LogOk l) (hn : e.num = (l.length : Int) + 1) (ho : Ok e) (ht : 0 < l.length → lastT l ≤ e.time) : LogOk (l ++ [e]) := by
  refine ⟨fun i x hx => ?_, fun i x y hx hy => ?_⟩
  · by_cases hi : i < l.length
    · rw [List.getElem?_append_left hi] at hx; exact h.1 i x hx
    · rw [List.getElem?_append_right (by omega)] at hx
      have : i - l.length = 0 := by
        have := (List.getElem?_eq_some_iff.1 hx).1
        simp at this; omega
      rw [this] at hx
      simp at hx
      subst hx
      exact ⟨by rw [hn]; omega, ho⟩
  · by_cases hi : i + 1 < l.length
    · rw [List.getElem?_append_left (by omega)] at hx
      rw [List.getElem?_append_left hi] at hy
      exact h.2 i x y hx hy
    · have hil : i + 1 = l.length := by
        have := (List.getElem?_eq_some_iff.1 hy).1
        simp at this; omega
      rw [List.getElem?_append_left (by omega)] at hx
      rw [List.getElem?_append_right (by omega), hil, Nat.sub_self] at hy
      simp at hy
      subst hy
      have := ht (by omega)
      unfold lastT at this
      rw [show l.length - 1 = i by omega, hx] at this
      exact this

theorem addC_ok {l : List Ent} {t : Int} {k x : ByteArray} (h : addC l t k x = 0) (hl : LogOk l) : LogOk (l ++ [newE l t k x]) := by
  have h0 : chk (newE l t k x) = 0 := by
    unfold addC at h
    by_cases h0 : chk (newE l t k x) = 0
    · exact h0
    · rw [if_pos h0] at h; exact absurd h h0
  refine hl.snoc rfl (chk_ok.1 h0) fun hp => ?_
  unfold addC at h
  rw [if_neg (by simp [h0])] at h
  by_cases h1 : 0 < l.length ∧ t < lastT l
  · rw [if_pos h1] at h; cases h
  · show lastT l ≤ t
    have : ¬ t < lastT l := fun h2 => h1 ⟨hp, h2⟩
    omega
end Go.Proofs.YtjmdebeffpdpcaaGreatDoor
