/- Package clock: Lamport. -/
import Derived.Test.YtchpgknaaofapaaA2
import Derived.Test.YtchpgknaaofapaaPl
import Derived.Test.YtchpgknaaofapaaApp
import Derived.IntWalk
namespace Go.Proofs.Ytchpgknaaofapaa
open Go.RowKit

/-- The events' sites, who receives, and from which event. -/
def sa (l : List Ev) (i : Nat) : Nat := l[i]!.1.toNat
def rc (l : List Ev) (i : Nat) : Bool := l[i]!.2.1 == 2
def sj (l : List Ev) (i : Nat) : Nat := sentN (l.take i) l[i]!.2.2
def LvE (l : List Ev) (i : Nat) : Int := Clk.Lv (sa l) (sj l) (rc l) i
def LLE (l : List Ev) (i a : Nat) : Int := Clk.LL (sa l) (sj l) (rc l) i a

theorem code_inv {l : List Ev} (h : checkE l = 0) : l.length ≤ 200 ∧ ∀ i, i < l.length → evE l i = 0 := by
  unfold checkE at h
  by_cases c : 200 < l.length
  · rw [if_pos c] at h; cases h
  · rw [if_neg c] at h
    exact ⟨by omega, fun i hi => checkFrom_inv h i (by omega) (by omega)⟩
/-- What a good event is. -/
theorem ev_ok {l : List Ev} {i : Nat} (h : evE l i = 0) : l[i]!.1 = ((sa l i : Nat) : Int) ∧ sa l i < 8 ∧ 0 ≤ l[i]!.2.1 ∧ l[i]!.2.1 ≤ 2 ∧ (rc l i = true → sj l i < i ∧ sentI (l.take i) l[i]!.2.2 = ((sj l i : Nat) : Int)) := by
  unfold evE evOf at h
  by_cases c1 : l[i]!.1 < 0 ∨ 8 ≤ l[i]!.1 ∨ l[i]!.2.1 < 0 ∨ 2 < l[i]!.2.1
  · rw [if_pos c1] at h; cases h
  · refine ⟨by unfold sa; omega, by unfold sa; omega, by omega, by omega, fun hr => ?_⟩
    have h2 : l[i]!.2.1 = 2 := by simpa [rc] using hr
    rw [if_neg c1, if_neg (by omega), if_neg (by omega)] at h
    by_cases c4 : l[i]!.2.1 = 2 ∧ sentI (l.take i) l[i]!.2.2 < 0
    · rw [if_pos c4] at h; cases h
    · have h3 : ¬ sentI (l.take i) l[i]!.2.2 < 0 := fun hh => c4 ⟨h2, hh⟩
      unfold sentI at h3 ⊢
      by_cases c5 : sentN (l.take i) l[i]!.2.2 < (l.take i).length
      · refine ⟨?_, by rw [if_pos c5]; rfl⟩
        unfold sj
        rw [List.length_take] at c5
        omega
      · rw [if_neg c5] at h3; omega
theorem code_sj {l : List Ev} (h : checkE l = 0) : ∀ i, i < l.length → rc l i = true → sj l i < i := fun i hi hr => ((ev_ok ((code_inv h).2 i hi)).2.2.2.2 hr).1

theorem LvE_eq {l : List Ev} (h : checkE l = 0) {j : Nat} (hj : j < l.length) : LvE l j = (if rc l j = true then max (LLE l j (sa l j)) (LvE l (sj l j)) else LLE l j (sa l j)) + 1 :=
  Clk.Lv_eq (sa := sa l) (sj := sj l) (rc := rc l) j (code_sj h j hj)
theorem LLE_succ (l : List Ev) (j a : Nat) : LLE l (j + 1) a = if a = sa l j then LvE l j else LLE l j a := Clk.LL_succ (sa := sa l) (sj := sj l) (rc := rc l) j a
theorem LLE_bd {l : List Ev} (h : checkE l = 0) {j : Nat} (hj : j ≤ l.length) (a : Nat) : 0 ≤ LLE l j a ∧ LLE l j a ≤ j := (Clk.L_bd (sa := sa l) (sj := sj l) (rc := rc l) (code_sj h) j hj).1 a
theorem LvE_bd {l : List Ev} (h : checkE l = 0) {j : Nat} (hj : j < l.length) : 1 ≤ LvE l j ∧ LvE l j ≤ j + 1 := (Clk.L_bd (sa := sa l) (sj := sj l) (rc := rc l) (code_sj h) _ (Nat.le_refl _)).2 j hj

def Tab (C : Array Value) (n : Nat) (f : Nat → Int) : Prop := C.size = n ∧ ∀ s, s < n → C[s]? = some (.int .i64 (f s))
theorem Tab.set {C : Array Value} {n : Nat} {f : Nat → Int} (h : Tab C n f) (i : Nat) (x : Int) (hi : i < n) : Tab (C.setIfInBounds i (.int .i64 x)) n (fun s => if s = i then x else f s) := by
  refine ⟨by simp [h.1], fun s hs => ?_⟩
  by_cases e : s = i
  · subst e
    rw [Array.getElem?_setIfInBounds_self_of_lt (by rw [h.1]; exact hs)]; simp
  · rw [Array.getElem?_setIfInBounds_ne (fun x => e x.symm)]; simp [e, h.2 s hs]
theorem Tab.congr {C : Array Value} {n : Nat} {f g : Nat → Int} (h : Tab C n f) (e : ∀ s, s < n → f s = g s) : Tab C n g := ⟨h.1, fun s hs => by rw [← e s hs]; exact h.2 s hs⟩

theorem int_info : (Try.prog.info? 3).map (fun i => (i.zero, i.size, i.bytes)) = some (some (.int .i64 0), 1, 8) := by kernel_rfl

theorem grown_setCell (w : World) (g i : Nat) (v : Value) : w.grownBy (w.setCell ⟨g, i, none⟩ v) (some g) := by
  have h := (Below.refl g w).setCell (p := ⟨g, i, none⟩) (Nat.le_refl _) v
  exact ⟨h.os, h.tape, h.output, h.size, fun k _ hk => heap_setCell_other _ _ _ _ (fun e => hk (by rw [e]))⟩
theorem own_ne {w : World} {base n size g : Nat} {e : TypeId} {v : Value} {xs : List Value} (h : w.ownsRow base e size v n xs) (hg : g < base) : v.ownBlock = none ∨ v.ownBlock ≠ some g :=
  .inr fun x => by have := (h.lt g x).1; omega

theorem wpList_append_intN {P : Program} {ops : Array Oper} {rest : List Oper} {o : Oper} {a : Act} {Q : Exit → Act → World → Prop} (W : World) (N : Nat) (hN : N = W.heap.size) (q : Int) (hgd : o.guard = none) (s x : Operand) (t : TypeId)
    (ho : o.op = .call { callee := .builtin .append, args := #[s, x], argTypes := #[t, t] })
    (base : Nat) (e : TypeId) (i : TypeInfo) (ht : P.underlying t = some (.slice e)) (hi : P.info? e = some i) (hz : i.zero = some (.int .i64 0)) (hsize : i.size = 1) (hby : i.bytes = 8)
    (v : Value) (n : Nat) (l : List Int) (hs : a.eval s = v) (hown : W.ownsRow base e 1 v n (intsV l))
    (hx : a.eval x = .slice (some ⟨N, 0, none⟩) 1 1) (hn : n + 1 ≤ 100000000) (hbase : base ≤ W.heap.size)
    (h : ∀ g cap w', w'.ownsRow base e 1 (.slice (some ⟨g, 0, none⟩) (n + 1) cap) (n + 1) (intsV (l ++ [q])) → (W.alloc (.cells #[.int .i64 q] e)).grownBy w' v.ownBlock → (v.ownBlock = some g ∨ g = W.heap.size + 1) → g < w'.heap.size →
      wpList P ops Q rest (a.put o.dst (.slice (some ⟨g, 0, none⟩) (n + 1) cap)) w') : wpList P ops Q (o :: rest) a (W.alloc (.cells #[.int .i64 q] e)) := by
  subst hN
  exact wpList_append_int W q hgd s x t ho base e i ht hi hz hsize hby v n l hs hown hx hn hbase h

theorem lamp_step {l : List Ev} {B j : Nat} {C : Array Value} {w W w' : World} {v : Value} (hT : Tab C 8 (LLE l j)) (a : Nat) (ha : a = sa l j) (x : Int) (hx : x = LvE l j) (ha8 : a < 8)
    (hCW : W.heap[B]? = some (.cells (C.setIfInBounds a (.int .i64 x)) 47 (0, 0))) (hbel : Below w.heap.size w W) (hwB : w.heap.size ≤ B) (hv : ∀ k, v.ownBlock = some k → B + 1 ≤ k) (hg : (W.alloc (.cells #[.int .i64 x] 3)).grownBy w' v.ownBlock) :
    ∃ C', w'.heap[B]? = some (.cells C' 47 (0, 0)) ∧ Tab C' 8 (LLE l (j + 1)) ∧ Below w.heap.size w w' ∧ B + 1 ≤ w'.heap.size := by
  have hBW : B < W.heap.size := (Array.getElem?_eq_some_iff.1 hCW).1
  have hz := hg.size
  simp at hz
  refine ⟨_, (hg.block B (by simp; omega) (fun e => by have := hv B e.symm; omega)).trans ((Below.heap_alloc _ _ B (by omega)).trans hCW), (hT.set a x ha8).congr fun s _ => ?_, ?_, by omega⟩
  · rw [LLE_succ, hx, ha]
  · exact (hbel.alloc hbel.size _).grown hg (by simp; have := hbel.size; omega) (fun k hk => by have := hv k hk; omega)

set_option maxHeartbeats 1000000 in
theorem Lamport_no (A : Option Addr) (c : Nat) (l : List Ev) (n : Nat) (hln : l.length = n) (w : World) (hA : EvsAt w w.heap.size A l) (hn : n ≤ c) (hc : c ≤ maxLen) (he : checkE l ≠ 0) :
    Calls Try.prog 12 #[.slice A n c] w fun e w' => e = .returned (.tuple #[.slice none 0 0, .int .i64 (checkE l)]) ∧ Below w.heap.size w w' := by
  have hne : (checkE l != 0) = true := by simp [he]
  have hcon := Check_any A c l n hln w hA hn hc
  generalize checkE l = r at *
  clear he hA hln
  go_enter Try.func12, Try.ntmps12
  go_wp2_with (go_at_call 20; refine hcon.mono ?_; rintro e w1 ⟨rfl, hb1⟩)
  go_ret2
  exact ⟨rfl, hb1⟩

set_option maxRecDepth 100000 in
set_option maxHeartbeats 4000000 in
theorem Lamport_ok (A : Option Addr) (c : Nat) (l : List Ev) (n : Nat) (hln : l.length = n) (w : World) (hA : EvsAt w w.heap.size A l) (hn : n ≤ c) (hc : c ≤ maxLen) (he : checkE l = 0) :
    Calls Try.prog 12 #[.slice A n c] w fun e w' => ∃ v, e = .returned (.tuple #[v, .int .i64 0]) ∧ w'.ownsRow w.heap.size 3 1 v n (intsV ((List.range n).map (LvE l))) ∧ Below w.heap.size w w' := by
  have hcon := Check_any A c l n hln w hA hn hc
  rw [he] at hcon
  have HC := Lib.hid he
  have HL := Lib.hid hln
  have HA := Lib.hid hA
  have h200 : n ≤ 200 := by have := (code_inv he).1; omega
  clear he hA hln
  obtain ⟨i0, J0, J1, J2, J3⟩ := info_parts int_info
  go_enter Try.func12, Try.ntmps12
  go_wp2_with (go_at_call 20; refine hcon.mono ?_; rintro e w1 ⟨rfl, hb1⟩)
  clear hcon
  have hb1s := hb1.size
  go_loopw [6, 17] (fun v k wr => ∃ (j : Nat) (C : Array Value), j ≤ n ∧ k = .int .i64 j ∧ wr.heap[w1.heap.size]? = some (.cells C 47 (0, 0)) ∧ Tab C 8 (LLE l j) ∧ wr.ownsRow (w1.heap.size + 1) 3 1 v j (intsV ((List.range j).map (LvE l))) ∧ Below w.heap.size w wr ∧ w1.heap.size + 1 ≤ wr.heap.size) (fun _ k _ => n - (intOf k).toNat)
  case atStart =>
    refine ⟨0, _, by omega, rfl, heap_alloc_new w1 _, ⟨rfl, fun s hs => ?_⟩, World.ownsRow_nil _ _ _ _, hb1.alloc hb1s _, by simp⟩
    have : s = 0 ∨ s = 1 ∨ s = 2 ∨ s = 3 ∨ s = 4 ∨ s = 5 ∨ s = 6 ∨ s = 7 := by omega
    rcases this with rfl | rfl | rfl | rfl | rfl | rfl | rfl | rfl <;> rfl
  case round =>
    obtain ⟨j, C, hj, rfl, hC, hT, hown, hbel, hz⟩ := hrel
    by_cases hlt : j < n
    · have hev := ev_ok ((code_inv HC.out).2 j (by rw [HL.out]; exact hlt))
      obtain ⟨e1, ha8, hk0, hk2, hrc⟩ := hev
      obtain ⟨a, hae⟩ : ∃ a, a = sa l j := ⟨_, rfl⟩
      have hx0 := LLE_bd HC.out (j := j) (by rw [HL.out]; exact hj) a
      have hLv := LvE_eq HC.out (j := j) (by rw [HL.out]; exact hlt)
      rw [← hae] at e1 ha8 hLv
      have cC := (cell_of_row wr w1.heap.size a C 47 (0, 0) hC).trans (hT.2 a ha8)
      have fC := frozen_of_row wr w1.heap.size a C 47 hC
      have ha0 : (0 : Int) ≤ (a : Int) := by omega
      have ha8' : (a : Int) < 8 := by omega
      have hwz : w1.heap.size < wr.heap.size := by omega
      have hwz' : w1.heap.size ≠ wr.heap.size := by omega
      have hA' := HA.out
      have hl := HL.out
      obtain ⟨b, off, rfl, hb, hr⟩ := hA' (by omega)
      have hrow := hr j (by omega)
      have o0 : wr.cell? ⟨b, off + j * 3, none⟩ = some (.int .i64 l[j]!.1) := (hbel.cell (p := ⟨b, off + j * 3, none⟩) hb).trans (hrow 0 _ rfl)
      have o1 : wr.cell? ⟨b, off + j * 3 + 1, none⟩ = some (.int .i64 l[j]!.2.1) := (hbel.cell (p := ⟨b, off + j * 3 + 1, none⟩) hb).trans (hrow 1 _ rfl)
      have o2 : wr.cell? ⟨b, off + j * 3 + 2, none⟩ = some (.int .i64 l[j]!.2.2) := (hbel.cell (p := ⟨b, off + j * 3 + 2, none⟩) hb).trans (hrow 2 _ rfl)
      rw [e1] at o0
      have hbw : b < wr.heap.size := Nat.lt_of_lt_of_le hb hbel.size
      have hA2 : EvsAt wr wr.heap.size (some ⟨b, off, none⟩) (l.take j) := evs_take ((HA.out.below hbel).more hbel.size) j
      have hlen : (l.take j).length = j := by rw [List.length_take]; omega
      obtain ⟨O, co, rfl⟩ := own_shape hown
      have HT := Lib.hid hT
      have HO := Lib.hid hown
      have HAE := Lib.hid hae
      generalize hx : LLE l j a = x at *
      clear hx
      have hj0 : (0 : Int) ≤ (j : Int) := by omega
      have hjc : (j : Int) ≤ (c : Int) := by omega
      clear hae hT hown hr hrow hl hA' e1
      by_cases hrcv : rc l j = true
      · obtain ⟨hsj, hsi⟩ := hrc hrcv
        rw [if_pos hrcv] at hLv
        have hk : l[j]!.2.1 = 2 := by simpa [rc] using hrcv
        rw [hk] at o1
        have hpos := LvE_bd HC.out (j := sj l j) (by rw [HL.out]; omega)
        generalize hy : LvE l (sj l j) = y at *
        generalize hrr : sj l j = r at *
        have hg : ∃ g, O = some ⟨g, 0, none⟩ ∧ g < wr.heap.size ∧ wr.cell? ⟨g, r, none⟩ = some (.int .i64 y) := by
          obtain ⟨g, cap, hv, _, hlt2⟩ := HO.out.form (by omega)
          have hO : O = some ⟨g, 0, none⟩ := by injection hv
          refine ⟨g, hO, hlt2, ?_⟩
          have := HO.out.cells (g := g) (by rw [hO]; rfl) r (.int .i64 y) (by rw [intsV_get hsj, hy])
          rw [Addr.add_mid, Nat.zero_add] at this
          exact this
        obtain ⟨g, rfl, hgw, cO⟩ := hg
        have hgw' : g ≠ wr.heap.size := by omega
        have hgw1 : g ≤ wr.heap.size := by omega
        have hgw2 : g < wr.heap.size + 1 := by omega
        have hr0 : (0 : Int) ≤ (r : Int) := by omega
        have hrj : (r : Int) < (j : Int) := by omega
        have hsent := fun (W : World) (hw : Below wr.heap.size wr W) => sent_any (some ⟨b, off, none⟩) c (l.take j) j hlen l[j]!.2.2 W ((hA2.below hw).more hw.size) (by unfold maxLen; omega)
        rw [hsi] at hsent
        have HS := Lib.hid hsent
        have HLV := Lib.hid hLv
        clear hLv hrc hrcv hk0 hk2 hsent hsi hk hy hrr
        generalize l[j]!.2.2 = m at *
        go_wp2_with fail
        go_region_held3 (fun W => W.cell? ⟨wr.heap.size, 2, none⟩ = some (.int .i64 m) ∧ W.cell? ⟨g, r, none⟩ = some (.int .i64 y)) (first | go_keep | ((try dsimp only); constructor <;> go_keep)) ((go_at_call 22; refine (HS.out _ (by exact ((Below.refl _ _).alloc (Nat.le_refl _) _).drew)).mono ?_; rintro e w3 ⟨rfl, hb3⟩; obtain ⟨hc3, hf3⟩ := bcell hb3))
        have hw3 : (w3.setCell ⟨w1.heap.size, a, none⟩ (.int .i64 (max x y + 1))).ownsRow (w1.heap.size + 1) 3 1 (.slice (some ⟨g, 0, none⟩) j co) j (intsV ((List.range j).map (LvE l))) :=
          (own_below ((HO.out.alloc _).drew) hb3 (Nat.le_refl _)).kept (grown_setCell _ _ _ _) (own_ne HO.out (by omega))
        have HW := Lib.hid hw3
        have hz3 : wr.heap.size + 1 ≤ w3.heap.size := by have := hb3.size; simpa using this
        have hC3 := (hb3.block w1.heap.size (by simp; omega)).trans ((Below.heap_alloc wr (.cells #[.int .i64 a, .int .i64 2, .int .i64 m] 34) w1.heap.size hwz).trans hC)
        have hbel3 := ((hbel.alloc hbel.size (.cells #[.int .i64 a, .int .i64 2, .int .i64 m] 34)).drew.trans (hb3.mono (by simp; have := hbel.size; omega)))
        have HB3 := Lib.hid hb3
        clear hw3 hb3
        go_wp2_with (at_builtin; go_loud (refine wpList_append_intN (w3.setCell ⟨w1.heap.size, a, none⟩ (.int .i64 (max x y + 1))) w3.heap.size (by simp) (max x y + 1) rfl (.tmp 45) (.tmp 48) 28 rfl (w1.heap.size + 1) 3 i0 Try.underlying28 J0 J1 J2 J3 (.slice (some ⟨g, 0, none⟩) j co) j _ rfl HW.out rfl (by omega) (by simp; omega) ?_); intro g3 cap3 w4 hv3 hg3 hat3 hlt3)
        obtain ⟨C', r1, r2, r3, r4⟩ := lamp_step HT.out a HAE.out (max x y + 1) HLV.out.symm ha8 (heap_setCell_same w3 _ a C 47 (.int .i64 (max x y + 1)) hC3) (hbel3.setCell (p := ⟨w1.heap.size, a, none⟩) hb1s _) hb1s (fun k hk => (HO.out.lt k hk).1) hg3
        rw [← HLV.out, range_snoc] at hv3
        go_roundw
        case rel => exact ⟨j + 1, C', by omega, by go_num, r1, r2, hv3, r3, r4⟩
        case measure => simp [intOf]; omega
      · rw [if_neg hrcv] at hLv
        have hk : (l[j]!.2.1 == 2) = false := by
          have h2 : rc l j = false := by simpa using hrcv
          exact h2
        have HLV := Lib.hid hLv
        clear hLv hrc hrcv hk0 hk2
        generalize l[j]!.2.1 = k at *
        generalize l[j]!.2.2 = m at *
        have hw3 : ((wr.setCell ⟨w1.heap.size, a, none⟩ (.int .i64 (x + 1))).alloc (.cells #[.int .i64 a, .int .i64 k, .int .i64 m] 34)).ownsRow (w1.heap.size + 1) 3 1 (.slice O j co) j (intsV ((List.range j).map (LvE l))) :=
          (HO.out.kept (grown_setCell _ _ _ _) (own_ne HO.out (by omega))).alloc _
        have HW := Lib.hid hw3
        clear hw3
        go_wp2_with (at_builtin; go_loud (refine wpList_append_intN ((wr.setCell ⟨w1.heap.size, a, none⟩ (.int .i64 (x + 1))).alloc (.cells #[.int .i64 a, .int .i64 k, .int .i64 m] 34)) (wr.heap.size + 1) (by simp) (x + 1) rfl (.tmp 45) (.tmp 48) 28 rfl (w1.heap.size + 1) 3 i0 Try.underlying28 J0 J1 J2 J3 (.slice O j co) j _ rfl HW.out rfl (by omega) (by simp; omega) ?_); intro g3 cap3 w3 hv3 hg3 hat3 hlt3)
        obtain ⟨C', r1, r2, r3, r4⟩ := lamp_step HT.out a HAE.out (x + 1) HLV.out.symm ha8 ((Below.heap_alloc _ _ _ (by simp; omega)).trans (heap_setCell_same wr _ a C 47 (.int .i64 (x + 1)) hC)) ((hbel.setCell (p := ⟨w1.heap.size, a, none⟩) hb1s _).alloc (by simp; omega) _) hb1s (fun k hk => (HO.out.lt k hk).1) hg3
        rw [← HLV.out, range_snoc] at hv3
        go_roundw
        case rel => exact ⟨j + 1, C', by omega, by go_num, r1, r2, hv3, r3, r4⟩
        case measure => simp [intOf]; omega
    · obtain rfl : n = j := by omega
      have HO := Lib.hid hown
      clear hown hT
      go_wp2
      go_ret2
      exact ⟨_, rfl, own_mono HO.out (by omega), hbel⟩
end Go.Proofs.Ytchpgknaaofapaa
