/- Package snapshot: changes in memory; Diff, Apply, SameState as the laws use them. -/
import Derived.Test.YtojnojjiblcmcaaDoorD4
import Derived.Test.YtojnojjiblcmcaaDoorD5
import Derived.Test.YtojnojjiblcmcaaDoorD2
namespace Go.Proofs.YtojnojjiblcmcaaDoor
open Go.RowKit

theorem DiffP_nil {a b : List Rw} {w w' : World} (code : Int) (hc : code = diffC a b) (h : diffC a b ≠ 0) (hb : Below w.heap.size w w') : DiffP a b w (.returned (.tuple #[.slice none 0 0, .int .i64 code])) w' := by
  subst hc
  unfold DiffP
  have : diffR a b = [] := by unfold diffR; rw [if_neg h]
  rw [this]
  exact ⟨none, 0, rfl, World.ownsRow_nil _ _ _ _, hb⟩

set_option maxRecDepth 100000 in
set_option maxHeartbeats 4000000 in
theorem Diff_any (A B : Option Addr) (n p c d : Nat) (a b : List Rw) (w : World) (ha : StAt a A n w) (hb : StAt b B p w) :
    Calls Tryd.prog 19 #[.slice A n c, .slice B p d] w (DiffP a b w) := by
  by_cases h0 : checkL a = 0
  · by_cases h1 : checkL b = 0
    · exact Diff_fine A B n p c d a b w ha hb h0 h1
    · have hne : diffC a b ≠ 0 := by unfold diffC; rw [if_neg (fun h => h h0)]; exact h1
      have hcd : checkL b = diffC a b := by unfold diffC; rw [if_neg (fun h => h h0)]
      have HCa := Lib.hid (fun W (hW : Below w.heap.size w W) => Check_any A n c a W (ha.below hW).sl ha.len ha.z ha.le)
      have HCb := Lib.hid (fun W (hW : Below w.heap.size w W) => Check_any B p d b W (hb.below hW).sl hb.len hb.z hb.le)
      unfold CheckP at HCa HCb
      rw [h0] at HCa
      obtain ⟨ce, hce⟩ : ∃ ce, checkL b = ce := ⟨_, rfl⟩
      rw [hce] at HCb hcd h1
      have t1 : (ce != 0) = true := by simpa using h1
      have HNe := Lib.hid hne
      have HCd := Lib.hid hcd
      have hle := ha.le
      have hle2 := hb.le
      have hnew := heap_alloc_new w (.cells #[.slice A n c, .slice B p d] 22)
      have hbn : Below w.heap.size w (w.alloc (.cells #[.slice A n c, .slice B p d] 22)) := (Below.refl _ _).alloc (Nat.le_refl _) _
      obtain ⟨W0, hW0⟩ : ∃ W0, w.alloc (.cells #[.slice A n c, .slice B p d] 22) = W0 := ⟨_, rfl⟩
      rw [hW0] at hnew hbn
      have hlt0 : w.heap.size < W0.heap.size := (Array.getElem?_eq_some_iff.1 hnew).1
      have HBn := Lib.hid hbn
      have K0 := Lib.hid (cell_of_row _ _ 0 _ _ _ hnew)
      have K1 := Lib.hid (cell_of_row _ _ 1 _ _ _ hnew)
      clear ha hb h0 h1 hnew hbn hne hcd hce
      go_enter Tryd.func19, Tryd.ntmps19
      go_wp2_with fail
      go_loopw [7, 8, 24] (fun _ _ i wr => ∃ j : Nat, j ≤ 1 ∧ i = .int .i64 (j : Int) ∧ Below W0.heap.size W0 wr) (fun _ _ i _ => 2 - (intOf i).toNat)
      case atStart => exact ⟨0, by omega, rfl, Below.refl _ _⟩
      case round =>
        obtain ⟨j, hj, rfl, hbr⟩ := hrel
        have HBw := Lib.hid (HBn.out.trans (hbr.mono HBn.out.size))
        rcases (show j = 0 ∨ j = 1 by omega) with rfl | rfl
        · have c0 := (hbr.cell (p := ⟨w.heap.size, 0, none⟩) hlt0).trans K0.out
          go_wp2_with (go_at_call 16; go_loud (refine (HCa.out _ HBw.out).mono ?_; rintro e w2 ⟨rfl, hb2⟩))
          go_roundw
          case rel => exact ⟨1, by omega, by go_num, hbr.trans (hb2.mono hbr.size)⟩
          case measure => simp [intOf]
        · have c0 := (hbr.cell (p := ⟨w.heap.size, 1, none⟩) hlt0).trans K1.out
          go_wp2_with (go_at_call 16; go_loud (refine (HCb.out _ HBw.out).mono ?_; rintro e w2 ⟨rfl, hb2⟩))
          go_ret2
          exact DiffP_nil ce HCd.out HNe.out (HBw.out.trans (hb2.mono HBw.out.size))
  · have hne : diffC a b ≠ 0 := by unfold diffC; rw [if_pos h0]; exact h0
    have hcd : checkL a = diffC a b := by unfold diffC; rw [if_pos h0]
    have HCa := Lib.hid (fun W (hW : Below w.heap.size w W) => Check_any A n c a W (ha.below hW).sl ha.len ha.z ha.le)
    unfold CheckP at HCa
    obtain ⟨ce, hce⟩ : ∃ ce, checkL a = ce := ⟨_, rfl⟩
    rw [hce] at HCa hcd h0
    have t1 : (ce != 0) = true := by simpa using h0
    have HNe := Lib.hid hne
    have HCd := Lib.hid hcd
    have hle := ha.le
    have hle2 := hb.le
    have hnew := heap_alloc_new w (.cells #[.slice A n c, .slice B p d] 22)
    have hbn : Below w.heap.size w (w.alloc (.cells #[.slice A n c, .slice B p d] 22)) := (Below.refl _ _).alloc (Nat.le_refl _) _
    obtain ⟨W0, hW0⟩ : ∃ W0, w.alloc (.cells #[.slice A n c, .slice B p d] 22) = W0 := ⟨_, rfl⟩
    rw [hW0] at hnew hbn
    have hlt0 : w.heap.size < W0.heap.size := (Array.getElem?_eq_some_iff.1 hnew).1
    have HBn := Lib.hid hbn
    have K0 := Lib.hid (cell_of_row _ _ 0 _ _ _ hnew)
    clear ha hb h0 hnew hbn hne hcd hce
    go_enter Tryd.func19, Tryd.ntmps19
    go_wp2_with fail
    go_loopw [7, 8, 24] (fun _ _ i wr => i = .int .i64 0 ∧ Below W0.heap.size W0 wr) (fun _ _ i _ => 2 - (intOf i).toNat)
    case atStart => exact ⟨rfl, Below.refl _ _⟩
    case round =>
      obtain ⟨rfl, hbr⟩ := hrel
      have HBw := Lib.hid (HBn.out.trans (hbr.mono HBn.out.size))
      have c0 := (hbr.cell (p := ⟨w.heap.size, 0, none⟩) hlt0).trans K0.out
      go_wp2_with (go_at_call 16; go_loud (refine (HCa.out _ HBw.out).mono ?_; rintro e w2 ⟨rfl, hb2⟩))
      go_ret2
      exact DiffP_nil ce HCd.out HNe.out (HBw.out.trans (hb2.mono HBw.out.size))
end Go.Proofs.YtojnojjiblcmcaaDoor

namespace Go.Proofs.YtojnojjiblcmcaaDoor
open Go.RowKit

structure ChAt (cs : List Ch) (A : Option Addr) (n : Nat) (w : World) : Prop where
  sl : Sl w w.heap.size 5 A n (fun i => chV cs[i]!)
  len : cs.length = n
  nil : A = none → n = 0
theorem ChAt.below {cs : List Ch} {A : Option Addr} {n : Nat} {w w' : World} (h : ChAt cs A n w) (hb : Below w.heap.size w w') : ChAt cs A n w' :=
  ⟨(h.sl.below hb).more hb.size, h.len, h.nil⟩
theorem ChAt.of_own {cs : List Ch} {A : Option Addr} {n c base : Nat} {w : World} (h : w.ownsRow base 49 5 (.slice A n c) n (rowsV chV cs)) (hl : cs.length = n) : ChAt cs A n w :=
  ⟨Sl_rows (k := 5) (fun _ => rfl) h hl (by decide), hl, fun hA => (own_nil h hA).1⟩

theorem diffL_len (ks : List ByteArray) (a b : List Rw) : (diffL ks a b).length ≤ ks.length := by
  unfold diffL
  exact Nat.le_trans (List.length_filter_le _ _) (by rw [List.length_map]; exact Nat.le_refl _)
theorem keysD_len (a b : List Rw) : (keysD a b).length ≤ a.length + b.length := by
  unfold keysD
  refine Nat.le_trans (ddN_len _ _) ?_
  unfold keysL
  rw [sortS_len, List.length_append, List.length_map, List.length_map]
  exact Nat.le_refl _
theorem diffC_zero {a b : List Rw} : diffC a b = 0 ↔ Fine a ∧ Fine b := by
  unfold diffC
  constructor
  · intro h
    by_cases h0 : checkL a = 0
    · rw [if_neg (fun h => h h0)] at h
      exact ⟨fine_of h0, fine_of h⟩
    · rw [if_pos h0] at h; exact absurd h h0
  · rintro ⟨h1, h2⟩
    rw [if_neg (fun h => h (fine_check h1))]
    exact fine_check h2
theorem diffR_good {a b : List Rw} (ha : Fine a) (hb : Fine b) : diffR a b = diffL (keysD a b) a b := by
  unfold diffR; rw [if_pos (diffC_zero.2 ⟨ha, hb⟩)]
theorem diffR_bad {a b : List Rw} (h : diffC a b ≠ 0) : diffR a b = [] := by
  unfold diffR; rw [if_neg h]
theorem diffR_len {a b : List Rw} : (diffR a b).length ≤ 128 := by
  by_cases h : diffC a b = 0
  · obtain ⟨h1, h2⟩ := diffC_zero.1 h
    rw [diffR_good h1 h2]
    have e1 := diffL_len (keysD a b) a b
    have e2 := keysD_len a b
    have e3 := h1.len
    have e4 := h2.len
    omega
  · rw [diffR_bad h]; exact Nat.zero_le _

theorem Diff_at (A B : Option Addr) (n p c d : Nat) (a b : List Rw) (w : World) (ha : StAt a A n w) (hb : StAt b B p w) :
    Calls Tryd.prog 19 #[.slice A n c, .slice B p d] w fun e w' => ∃ A' c', e = .returned (.tuple #[.slice A' (diffR a b).length c', .int .i64 (diffC a b)]) ∧ ChAt (diffR a b) A' (diffR a b).length w' ∧ Below w.heap.size w w' := by
  refine (Diff_any A B n p c d a b w ha hb).mono ?_
  rintro e w' ⟨A', c', he, ho, hb'⟩
  exact ⟨A', c', he, ChAt.of_own ho rfl, hb'⟩
theorem Apply_at (A B : Option Addr) (n p c d : Nat) (l m : List Rw) (cs : List Ch) (w : World) (ha : StAt l A n w) (hf : Fine l) (hB : ChAt cs B p w) (hpn : p ≤ 256) (hap : applyC l cs = (m, 0)) (hm : Fine m) :
    Calls Tryd.prog 20 #[.slice A n c, .slice B p d] w fun e w' => ∃ A' c', e = .returned (.tuple #[.slice A' m.length c', .int .i64 0]) ∧ StAt m A' m.length w' ∧ Below w.heap.size w w' := by
  refine (Apply_ok A B n p c d l m cs w ha hf hB.sl hB.len hpn hap hm.len).mono ?_
  rintro e w' ⟨A', c', he, ho, hb'⟩
  exact ⟨A', c', he, StAt.of_own hm ho, hb'⟩
theorem Same_at (A B : Option Addr) (n p c d : Nat) (l m : List Rw) (w : World) (ha : StAt l A n w) (hb : StAt m B p w) :
    Calls Tryd.prog 11 #[.slice A n c, .slice B p d] w fun e w' => (∃ r, e = .returned (.bool r) ∧ (r = true ↔ l = m)) ∧ Below w.heap.size w w' :=
  Same_all A B n p c d w.heap.size l m w ha.sl hb.sl ha.len hb.len ha.le hb.le
theorem Same_yes (A B : Option Addr) (n p c d : Nat) (l : List Rw) (w : World) (ha : StAt l A n w) (hb : StAt l B p w) :
    Calls Tryd.prog 11 #[.slice A n c, .slice B p d] w fun e w' => e = .returned (.bool true) ∧ Below w.heap.size w w' := by
  refine (Same_at A B n p c d l l w ha hb).mono ?_
  rintro e w' ⟨⟨r, rfl, hr⟩, hb'⟩
  rw [hr.2 rfl]
  exact ⟨rfl, hb'⟩
theorem Concat_at (b : Nat) (A1 A2 : Option Addr) (n1 n2 c1 c2 : Nat) (ds es : List Ch) (w : World) (hb : w.heap[b]? = some (.cells #[.slice A1 n1 c1, .slice A2 n2 c2] 43 (0, 0))) (h1 : ChAt ds A1 n1 w) (h2 : ChAt es A2 n2 w) (hn1 : n1 ≤ 128) (hn2 : n2 ≤ 128) :
    Calls Tryd.prog 22 #[.slice (some ⟨b, 0, none⟩) 2 2] w fun e w' => ∃ A' c', e = .returned (.slice A' (n1 + n2) c') ∧ ChAt (ds ++ es) A' (n1 + n2) w' ∧ Below w.heap.size w w' := by
  have hone : ∀ (cs : List Ch) (i : Nat) u, u ∈ flatR (fun i => chV cs[i]!) i → u.oneCell' = true := fun cs i u hu => by
    obtain ⟨j, _, hu⟩ := flatR_mem hu
    rcases List.mem_cons.1 hu with rfl | hu
    · rfl
    rcases List.mem_cons.1 hu with rfl | hu
    · rfl
    rcases List.mem_cons.1 hu with rfl | hu
    · rfl
    rcases List.mem_cons.1 hu with rfl | hu
    · rfl
    rcases List.mem_cons.1 hu with rfl | hu
    · rfl
    cases hu
  refine (ConcatCh_two b A1 A2 n1 n2 c1 c2 (fun i => chV ds[i]!) (fun i => chV es[i]!) w hb h1.sl h2.sl (fun _ _ => rfl) (fun _ _ => rfl) (hone ds n1) (hone es n2) h1.nil h2.nil (by omega) (by omega)).mono ?_
  rintro e w' ⟨A', c', he, ho, hb'⟩
  refine ⟨A', c', he, ChAt.of_own (base := w.heap.size) (c := c') ?_ (by rw [List.length_append, h1.len, h2.len]), hb'⟩
  rw [rowsV_append, rowsV_flat (k := 5) (fun _ => rfl) ds, rowsV_flat (k := 5) (fun _ => rfl) es, h1.len, h2.len]
  exact ho
end Go.Proofs.YtojnojjiblcmcaaDoor
