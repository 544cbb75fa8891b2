/- Package strip: the board in memory; index. -/
import Derived.Test.YtadhkncilokdjaaDoorA1
namespace Go.Proofs.YtadhkncilokdjaaDoor
open Go.RowKit

/-- The first strip with a call, or -1. -/
def idxA (l : List St) (s : ByteArray) : Nat → Int → Int
  | 0, r => r
  | k + 1, r => idxA l s k (if l[k]!.c = s then (k : Int) else r)
def idx (l : List St) (s : ByteArray) : Int := idxA l s l.length (-1)
theorem idxA_no {l : List St} {s : ByteArray} : ∀ (k : Nat) (r : Int), (∀ i, i < k → l[i]!.c ≠ s) → idxA l s k r = r
  | 0, _, _ => rfl
  | k + 1, r, h => by rw [idxA, if_neg (h k (by omega))]; exact idxA_no k r (fun i hi => h i (by omega))
theorem idxA_yes {l : List St} {s : ByteArray} {j : Nat} (hj : l[j]!.c = s) (h : ∀ i, i < j → l[i]!.c ≠ s) : ∀ (k : Nat) (r : Int), j < k → idxA l s k r = (j : Int)
  | 0, _, hk => by omega
  | k + 1, r, hk => by
    rw [idxA]
    by_cases e : j = k
    · subst e; rw [if_pos hj]; exact idxA_no j _ h
    · exact idxA_yes hj h k _ (by omega)
theorem idx_no {l : List St} {s : ByteArray} (h : ∀ i, i < l.length → l[i]!.c ≠ s) : idx l s = -1 := idxA_no _ _ h
theorem idx_yes {l : List St} {s : ByteArray} {j : Nat} (hl : j < l.length) (hj : l[j]!.c = s) (h : ∀ i, i < j → l[i]!.c ≠ s) : idx l s = (j : Int) := idxA_yes hj h _ _ hl

set_option maxRecDepth 100000 in
set_option maxHeartbeats 2000000 in
theorem cls34 (x : St) (s : ByteArray) (B : Nat) (w : World) (hB : B < w.heap.size) (hg : w.heap[B]? = some (.cells #[.string s] 9 (0, 0))) :
    Calls Tryd.prog 34 #[.agg #[.string x.c, .string x.f, .int .i64 x.t, .int .i64 x.h, .int .i64 x.b], .pointer (some ⟨B, 0, none⟩)] w fun e w' => e = .returned (.bool (decide (x.c = s))) ∧ Below w.heap.size w w' := by
  have c0 := cell_of_row w B 0 _ 9 (0, 0) hg
  have hne : B ≠ w.heap.size := by omega
  rw [← ba_beq]
  obtain ⟨c, f, t, h, b⟩ := x
  dsimp only
  clear hg
  go_enter Tryd.func34, Tryd.ntmps34
  go_wp2
  go_ret
  exact ⟨rfl, (Below.refl _ w).alloc (Nat.le_refl _) _⟩

/-- A row of strips: cell by cell. -/
theorem st_cells {w : World} {N n : Nat} {A : Option Addr} {f : Nat → St} (h : Sl w N 5 A n (fun i => stV (f i))) (hn : 0 < n) : ∃ b off, A = some ⟨b, off, none⟩ ∧ b < N ∧ ∀ i, i < n →
    w.cell? ⟨b, off + i * 5, none⟩ = some (.string (f i).c) ∧ w.cell? ⟨b, off + i * 5 + 1, none⟩ = some (.string (f i).f) ∧ w.cell? ⟨b, off + i * 5 + 2, none⟩ = some (.int .i64 (f i).t) ∧ w.cell? ⟨b, off + i * 5 + 3, none⟩ = some (.int .i64 (f i).h) ∧ w.cell? ⟨b, off + i * 5 + 4, none⟩ = some (.int .i64 (f i).b) := by
  obtain ⟨b, off, e, hb, hr⟩ := h hn
  exact ⟨b, off, e, hb, fun i hi => ⟨hr i hi 0 _ rfl, hr i hi 1 _ rfl, hr i hi 2 _ rfl, hr i hi 3 _ rfl, hr i hi 4 _ rfl⟩⟩

set_option maxRecDepth 100000 in
set_option maxHeartbeats 4000000 in
theorem IndexF_any (A : Option Addr) (l : List St) (n c : Nat) (s : ByteArray) (B : Nat) (w : World) (hA : Sl w w.heap.size 5 A n (fun i => stV l[i]!)) (hl : l.length = n) (hn : n ≤ 1000) (hB : B < w.heap.size) (hg : w.heap[B]? = some (.cells #[.string s] 9 (0, 0))) :
    Calls Tryd.prog 33 #[.slice A n c, .func (.func 34) #[] #[.pointer (some ⟨B, 0, none⟩)]] w fun e w' => e = .returned (.int .i64 (idx l s)) ∧ Below w.heap.size w w' := by
  have HA := Lib.hid hA
  have HG := Lib.hid hg
  have HL := Lib.hid hl
  clear hA hg hl
  go_enter Tryd.func33, Tryd.ntmps33
  go_wp2
  go_loopw [8] (fun k wr => ∃ j : Nat, j ≤ n ∧ k = .int .i64 j ∧ Hid (∀ i, i < j → l[i]!.c ≠ s) ∧ Hid (Below w.heap.size w wr)) (fun k _ => n - (intOf k).toNat)
  case atStart => exact ⟨0, by omega, rfl, Lib.hid (fun i hi => absurd hi (by omega)), Lib.hid (Below.refl _ _)⟩
  case round =>
    obtain ⟨j, hj, rfl, HN, HB⟩ := hrel
    have hzr := HB.out.size
    by_cases hlt : j < n
    · obtain ⟨b, off, rfl, hb, hc⟩ := st_cells HA.out (by omega)
      obtain ⟨c0, c1, c2, c3, c4⟩ := hc j hlt
      have d0 := (HB.out.cell (p := ⟨b, off + j * 5, none⟩) hb).trans c0
      have d1 := (HB.out.cell (p := ⟨b, off + j * 5 + 1, none⟩) hb).trans c1
      have d2 := (HB.out.cell (p := ⟨b, off + j * 5 + 2, none⟩) hb).trans c2
      have d3 := (HB.out.cell (p := ⟨b, off + j * 5 + 3, none⟩) hb).trans c3
      have d4 := (HB.out.cell (p := ⟨b, off + j * 5 + 4, none⟩) hb).trans c4
      have HX : Hid (∀ x : St, l[j]! = x → l[j]!.c = x.c) := Lib.hid (fun x h => by rw [h])
      obtain ⟨x, hx⟩ : ∃ x, l[j]! = x := ⟨_, rfl⟩
      have HXe := Lib.hid hx
      rw [hx] at d0 d1 d2 d3 d4
      have HC := Lib.hid (cls34 x s B wr (by omega) ((HB.out.block B hB).trans HG.out))
      have l1 : (j : Int) < (n : Int) := by omega
      have l0 : (0 : Int) ≤ (j : Int) := by omega
      have hwj : IntKind.i64.wrap ((j : Int) + 1) = (j : Int) + 1 := IntWalk.i64_in _ (by omega)
      clear hc c0 c1 c2 c3 c4 hx HX
      by_cases he : x.c = s
      · rw [decide_eq_true he] at HC
        have HE := Lib.hid he
        clear he
        go_wp2_with (go_at_call 34; go_loud (refine HC.out.mono ?_; rintro e w2 ⟨rfl, hb2⟩))
        go_ret
        refine ⟨?_, HB.out.trans (hb2.mono hzr)⟩
        rw [idx_yes (by rw [HL.out]; exact hlt) (by rw [HXe.out]; exact HE.out) HN.out]
        rfl
      · rw [decide_eq_false he] at HC
        have HE := Lib.hid he
        clear he
        go_wp2_with (go_at_call 34; go_loud (refine HC.out.mono ?_; rintro e w2 ⟨rfl, hb2⟩))
        go_roundw
        case rel => exact ⟨j + 1, by omega, by go_num, hid_step (P := fun i => l[i]!.c ≠ s) HN (by rw [HXe.out]; exact HE.out), HB.out.trans (hb2.mono hzr)⟩
        case measure => simp [intOf]; omega
    · obtain rfl : n = j := by omega
      go_wp2
      go_ret
      refine ⟨?_, HB.out⟩
      rw [idx_no (by rw [HL.out]; exact HN.out)]
      rfl

/-- Block g is a board; its strips lie in a row of its own. -/
def BdA (g : Nat) (A : Option Addr) (c : Nat) (l : List St) (W : World) : Prop :=
  W.heap[g]? = some (.cells #[.slice A l.length c] 44 (0, 0)) ∧ W.ownsRow (g + 1) 24 5 (.slice A l.length c) l.length (rowsV stV l)
theorem BdA.lt {g c : Nat} {A : Option Addr} {l : List St} {W : World} (h : BdA g A c l W) : g < W.heap.size := (Array.getElem?_eq_some_iff.1 h.1).1
theorem BdA.cell {g c : Nat} {A : Option Addr} {l : List St} {W : World} (h : BdA g A c l W) : W.cell? ⟨g, 0, none⟩ = some (.slice A l.length c) := cell_of_row _ _ _ _ _ _ h.1
theorem BdA.frozen {g c : Nat} {A : Option Addr} {l : List St} {W : World} (h : BdA g A c l W) : W.frozen? ⟨g, 0, none⟩ = false := frozen_of_row _ _ _ _ _ h.1
theorem BdA.below {g c : Nat} {A : Option Addr} {l : List St} {W W' : World} (h : BdA g A c l W) (hb : Below W.heap.size W W') : BdA g A c l W' :=
  ⟨(hb.block _ h.lt).trans h.1, own_below h.2 hb (Nat.le_refl _)⟩
theorem BdA.sl {g c : Nat} {A : Option Addr} {l : List St} {W : World} (h : BdA g A c l W) : Sl W W.heap.size 5 A l.length (fun i => stV l[i]!) := Sl_rows stV_len h.2 rfl (by decide)

set_option maxRecDepth 100000 in
set_option maxHeartbeats 2000000 in
theorem index_any {g c : Nat} {A : Option Addr} {l : List St} {w : World} (h : BdA g A c l w) (s : ByteArray) (hn : l.length ≤ 1000) :
    Calls Tryd.prog 18 #[.pointer (some ⟨g, 0, none⟩), .string s] w fun e w' => e = .returned (.int .i64 (idx l s)) ∧ Below w.heap.size w w' := by
  have hb1 : Below w.heap.size w (w.alloc (.cells #[.string s] 9)) := (Below.refl _ _).alloc (Nat.le_refl _) _
  have HI := Lib.hid (IndexF_any A l l.length c s w.heap.size (w.alloc (.cells #[.string s] 9)) ((h.sl.below hb1).more hb1.size) rfl hn (by simp) (heap_alloc_new w _))
  have HB := Lib.hid hb1
  have c0 := h.cell
  have hg := h.lt
  have hne : g ≠ w.heap.size := by omega
  clear h hb1
  generalize l.length = n at *
  generalize idx l s = r at *
  go_enter Tryd.func18, Tryd.ntmps18
  go_wp2_with (go_at_call 33; go_loud (refine HI.out.mono ?_; rintro e w2 ⟨rfl, hb2⟩))
  go_ret
  exact ⟨rfl, HB.out.trans (hb2.mono (by simp))⟩
end Go.Proofs.YtadhkncilokdjaaDoor
