/- Contracts and plain words, part 12: texts U20, P1, P2, U21, U11. -/
import Derived.Test.YtaebebpldkciiaaGreatDoorQG11
import Derived.Test.YtaebebpldkciiaaGreatDoorQG05
import Derived.Test.YtaebebpldkciiaaGreatDoorQG01
import Derived.Test.YtaebebpldkciiaaGreatDoorQG03
import Derived.Laws.Rows
import Derived.Test.YtaebebpldkciiaaGreatDoorQG04
namespace Go.Proofs.YtaebebpldkciiaaGreatDoor
section
open Go.RowKit
def zeroE : Ent := ⟨0, 0, .empty, .empty⟩
theorem drop34 {A : Option Addr} {c : Nat} (n q : Nat) (hq : q ≤ n) (hn : n ≤ c) (hc : c ≤ maxLen) (hnil : A = none → n = 0 ∧ c = 0) : ∃ A2, (∀ W, (Instr.slice 75 (.slice A n c) (some (.int .i64 (q : Int))) none none).run Tryz.prog W = .ok (.slice A2 (n - q) (c - q)) W) ∧
  (A2 = none → A = none) ∧ ∀ (w : World) (B : Nat) (f : Nat → Ent), Sl w B 4 A n (fun i => rowE (f i)) → Sl w B 4 A2 (n - q) (fun i => rowE (f (q + i))) := by
 unfold maxLen at hc
 have h0 : (0 : Int) ≤ (q : Int) := by omega
 have h1 : (q : Int) ≤ (n : Int) := by omega
 have h2 : (n : Int) ≤ (c : Int) := by omega
 have c23 : Tryz.prog.cellsOf 78 = 4 := by kernel_rfl
 cases A with
 | none =>
  obtain ⟨rfl, rfl⟩ := hnil rfl
  obtain rfl : q = 0 := by omega
  refine ⟨none, fun W => ?_, fun _ => rfl, fun w B f _ => fun hh => absurd hh (by omega)⟩
  go_simp
 | some a =>
  refine ⟨if c = q then some a else some (a.add (q * 4)), fun W => ?_, fun h => ?_, fun w B f hs => ?_⟩
  ·go_simp
  ·split at h <;> cases h
  ·intro hp
   obtain ⟨b, off, e, hb, hr⟩ := hs (by omega)
   cases e
   rw [if_neg (by omega)]
   refine ⟨b, off + q * 4, ?_, hb, fun i hi => ?_⟩
   ·by_cases hz : q = 0
    ·subst hz; simp [Addr.add]
    ·have hz4 : ¬ q * 4 = 0 := by omega
     simp [Addr.add, hz4]
   ·have := hr (q + i) (by omega)
    rw [show off + q * 4 + i * 4 = off + (q + i) * 4 by omega]
    exact this
theorem flat_drop (l : List Ent) (q : Nat) : flatR (fun i => rowE ((l[q + i]?).getD zeroE)) (l.length - q) = (l.drop q).flatMap rowE := by
 unfold flatR
 have h : (List.range (l.length - q)).map (fun i => (l[q + i]?).getD zeroE) = l.drop q := by
  apply List.ext_getElem
  ·simp
  ·intro i h1 h2
   simp at h1 h2
   simp [show q + i < l.length by omega]
 rw [← h, List.flatMap_map]
theorem LogA.sl {g c : Nat} {A : Option Addr} {l : List Ent} {W : World} (h : LogA g A c l W) : Sl W W.heap.size 4 A l.length (fun i => rowE ((l[i]?).getD zeroE)) :=
 Sl.of_own h.2 (Nat.le_refl _) fun i hi j v hj => by
  refine rowE_at l i _ ?_ j v hj
  rw [List.getElem?_eq_getElem hi]; rfl
def EntP (l : List Ent) (w : World) (y : Ending) (w' : World) : Prop :=
 ∃ A c, y = .returned (.slice A l.length c) ∧ w'.ownsRow w.heap.size 78 4 (.slice A l.length c) l.length (l.flatMap rowE) ∧ Below w.heap.size w w'
set_option maxRecDepth 100000 in
set_option maxHeartbeats 2000000 in
theorem Entries_any {g c : Nat} {A : Option Addr} {l : List Ent} {w : World} (h : LogA g A c l w) (p i : Nat) (hp : p ≤ 1000) (hi : i = min p l.length) (hl : l.length ≤ 1000) :
  Calls Tryz.prog 33 #[.pointer (some ⟨g, 0, none⟩), .int .i64 ((p : Int) + 1)] w (EntP (l.drop i) w) := by
 have hcap := own_cap h.2
 have hnil := own_nil h.2
 obtain ⟨A2, hr, hn2, hsl⟩ := drop34 (A := A) (c := c) l.length i (by omega) hcap.1 hcap.2 hnil
 have hcl := CloneEnt_any A2 (l.length - i) (c - i) (fun k => rowE ((l[i + k]?).getD zeroE)) w (hsl w _ _ h.sl) (fun _ _ => rfl) (fun k _ u hu => by
  simp only [rowE, List.mem_cons, List.mem_nil_iff, or_false] at hu
  rcases hu with rfl | rfl | rfl | rfl <;> rfl) (fun e => by have := hnil (hn2 e); omega) (by unfold maxLen; omega) (by omega)
 rw [flat_drop] at hcl
 have HCl := Lib.hid hcl
 have cg := h.cell
 have hmx : max ((p : Int) + 1) 1 = (p : Int) + 1 := by omega
 have hmi : min (p : Int) (l.length : Int) = (i : Int) := by omega
 have hld : (l.drop i).length = l.length - i := by simp
 have HLd := Lib.hid hld
 have hp0 : (0 : Int) ≤ (p : Int) := by omega
 clear hcl hi hld hsl h hnil
 go_enter Tryz.func33, Tryz.ntmps33
 go_wp2_with (go_at_call 60; refine HCl.out.mono ?_; rintro e w1 ⟨v, rfl, hown, hb⟩)
 go_ret
 have hld := HLd.out
 rw [← hld] at hown
 rcases hown.2 with ⟨rfl, h0⟩ | ⟨b, cp, cur, rfl, _⟩
 ·exact ⟨none, 0, by rw [h0]; rfl, by rw [h0] at hown ⊢; exact hown, hb⟩
 ·exact ⟨_, cp, rfl, hown, hb⟩
def LogP (l : List Ent) (w : World) (e : Ending) (w' : World) : Prop := ∃ A c, e = .returned (.slice A l.length c) ∧ OwnF (fun k => w.heap.size ≤ k) w' 78 4 (.slice A l.length c) l.length (rowsV rowE l) ∧ Below w.heap.size w w'
set_option maxRecDepth 100000 in
theorem Log_any {F : Nat → Prop} {g : Nat} {S : Su} {c : Ce} {y : Lay} {w : World} (h : CeM F g S c y w) (hok : CeOk c) (h20 : c.acc ≤ 20) :
  Calls Tryz.prog 29 #[.pointer (some ⟨g, 0, none⟩)] w (LogP c.log w) := by
 have hl : c.log.length ≤ 1000 := by have := hok.log; omega
 have HE := Lib.hid (Entries_any h.log 0 0 (by omega) (by omega) hl)
 have c21 : w.cell? ⟨g, 21, none⟩ = some (.pointer (some ⟨y.L, 0, none⟩)) := h.cell 21
 clear h hok h20 hl
 rw [show (((0 : Nat) : Int) + 1) = 1 from rfl, List.drop_zero] at HE
 unfold EntP at HE
 go_enter Tryz.func29, Tryz.ntmps29
 go_wp2_with (go_at_call 33; go_loud (refine HE.out.mono ?_; rintro e w1 ⟨A, cc, rfl, ho, hb⟩))
 go_ret
 exact ⟨A, cc, rfl, ⟨own_mono ho (Nat.zero_le _), fun k hk => (ho.lt k hk).1⟩, hb⟩
def OwCp (l : List Ow) (w : World) (e : Ending) (w' : World) : Prop := ∃ A c, e = .returned (.slice A l.length c) ∧ OwnF (fun k => w.heap.size ≤ k) w' 136 3 (.slice A l.length c) l.length (rowsV owV l) ∧ Below w.heap.size w w'
set_option maxRecDepth 100000 in
theorem Owners_any {F : Nat → Prop} {g : Nat} {S : Su} {c : Ce} {y : Lay} {w : World} (h : CeM F g S c y w) (hok : CeOk c) :
  Calls Tryz.prog 70 #[.pointer (some ⟨g, 0, none⟩)] w (OwCp c.ow w) := by
 have h24 := hok.ow.n
 have h2 := h.oown.1
 unfold Hd.v at h2
 rw [← h.oh] at h2
 have hoh := h.oh
 have HC := Lib.hid (CloneOw_any y.oh.A y.oh.n y.oh.c (fun i => owV c.ow[i]!) w h.owa.2 (fun _ _ => rfl) (fun i _ u hu => by
  simp only [owV, List.mem_cons, List.not_mem_nil, or_false] at hu
  rcases hu with rfl | rfl | rfl <;> rfl) (fun hA => (own_nil h2 hA).1) (by unfold maxLen; omega) (by omega))
 have HOh := Lib.hid hoh
 have c20 : w.cell? ⟨g, 20, none⟩ = some (.slice y.oh.A y.oh.n y.oh.c) := h.cell 20
 clear h hok h24 h2 hoh
 go_enter Tryz.func70, Tryz.ntmps70
 go_wp2_with (go_at_call 117; go_loud (refine HC.out.mono ?_; rintro e w1 ⟨v, rfl, ho, hb⟩))
 go_ret
 rw [HOh.out, ← rowsV_flat (enc := owV) owV_len] at ho
 obtain ⟨A, cc, rfl⟩ := own_shape ho
 exact ⟨A, cc, rfl, ⟨own_mono ho (Nat.zero_le _), fun k hk => (ho.lt k hk).1⟩, hb⟩
end
section
open Go.RowKit
structure It where
 nm : ByteArray
 wk : Int
 rd : Int
 sl : Int
def It.row (x : It) : List Value := [.string x.nm, .int .i64 x.wk, .int .i64 x.rd, .int .i64 x.sl]
def It.ok (x : It) : Prop := 0 ≤ x.wk ∧ x.wk ≤ 3 ∧ 0 ≤ x.rd ∧ x.rd ≤ 200000 ∧ 0 ≤ x.sl ∧ x.sl ≤ 200000
def It.okB (x : It) : Bool := decide (0 ≤ x.wk ∧ x.wk ≤ 3 ∧ 0 ≤ x.rd ∧ x.rd ≤ 200000 ∧ 0 ≤ x.sl ∧ x.sl ≤ 200000)
def Gaps (G : Array Value) (g : Nat → Int) : Prop := G.size = 16 ∧ ∀ i, i < 16 → G[i]? = some (.int .i64 (g i))
def gapOk (v : Int) : Prop := 0 ≤ v ∧ v ≤ 1000
def gapOkB (v : Int) : Bool := decide (0 ≤ v ∧ v ≤ 1000)
def gapsOkB (g : Nat → Int) : Bool := (List.range 16).all fun i => gapOkB (g i)
def itsOkB (n : Nat) (its : Nat → It) : Bool := (List.range n).all fun i => (its i).okB
theorem gapsOkB_iff {g : Nat → Int} : gapsOkB g = true ↔ ∀ i, i < 16 → gapOk (g i) := by
 simp [gapsOkB, gapOkB, gapOk]
theorem itsOkB_iff {n : Nat} {its : Nat → It} : itsOkB n its = true ↔ ∀ i, i < n → (its i).ok := by
 simp [itsOkB, It.okB, It.ok]
def checkCode (n : Nat) (its : Nat → It) (g : Nat → Int) : Int :=
 if 32 < n then 2 else if gapsOkB g && itsOkB n its then 0 else 4
theorem checkCode_large {n : Nat} {its : Nat → It} {g : Nat → Int} (h : 32 < n) : checkCode n its g = 2 := by unfold checkCode; rw [if_pos h]
theorem checkCode_ok {n : Nat} {its : Nat → It} {g : Nat → Int} (h : ¬ 32 < n) (hg : ∀ i, i < 16 → gapOk (g i)) (hi : ∀ i, i < n → (its i).ok) : checkCode n its g = 0 := by
 unfold checkCode
 rw [if_neg h, if_pos (by rw [gapsOkB_iff.2 hg, itsOkB_iff.2 hi]; rfl)]
theorem checkCode_gap {n : Nat} {its : Nat → It} {g : Nat → Int} (h : ¬ 32 < n) (i : Nat) (hi : i < 16) (hg : ¬ gapOk (g i)) : checkCode n its g = 4 := by
 unfold checkCode
 rw [if_neg h, if_neg]
 intro hh
 rw [Bool.and_eq_true] at hh
 exact hg (gapsOkB_iff.1 hh.1 i hi)
theorem checkCode_it {n : Nat} {its : Nat → It} {g : Nat → Int} (h : ¬ 32 < n) (i : Nat) (hi : i < n) (hg : ¬ (its i).ok) : checkCode n its g = 4 := by
 unfold checkCode
 rw [if_neg h, if_neg]
 intro hh
 rw [Bool.and_eq_true] at hh
 exact hg (itsOkB_iff.1 hh.2 i hi)
theorem Gaps.row {G : Array Value} {g : Nat → Int} (h : Gaps G g) (k : Nat) (hk : k < 4) :
  G.extract (k * 4) (k * 4 + 4) = #[.int .i64 (g (4 * k)), .int .i64 (g (4 * k + 1)), .int .i64 (g (4 * k + 2)), .int .i64 (g (4 * k + 3))] := by
 obtain ⟨hs, hc⟩ := h
 apply Array.ext
 ·simp [hs]; omega
 ·intro i h1 h2
  simp at h2
  have e := hc (k * 4 + i) (by omega)
  rw [Array.getElem?_eq_getElem (by omega)] at e
  have e' := Option.some.inj e
  rw [Array.getElem_extract]
  rw [e']
  match i, h2 with
  | 0, _ => simp [Nat.mul_comm]
  | 1, _ => simp [Nat.mul_comm]
  | 2, _ => simp [Nat.mul_comm]
  | 3, _ => simp [Nat.mul_comm]
theorem row_cell {g : Nat → Int} (k m : Nat) (hm : m < 4) :
  (#[Value.int .i64 (g (4 * k)), Value.int .i64 (g (4 * k + 1)), Value.int .i64 (g (4 * k + 2)), Value.int .i64 (g (4 * k + 3))])[m]? = some (.int .i64 (g (4 * k + m))) := by
 match m, hm with
 | 0, _ => rfl
 | 1, _ => rfl
 | 2, _ => rfl
 | 3, _ => rfl
theorem info23 : ∃ i, Tryz.prog.info? 24 = some i ∧ i.size = 4 := by
 have h : (Tryz.prog.info? 24).map (·.size) = some 4 := by kernel_rfl
 cases hi : Tryz.prog.info? 24 with
 | none => rw [hi] at h; cases h
 | some i => rw [hi] at h; exact ⟨i, rfl, by simpa using h⟩
theorem info3 : ∃ i, Tryz.prog.info? 3 = some i ∧ i.size = 1 := by
 have h : (Tryz.prog.info? 3).map (·.size) = some 1 := by kernel_rfl
 cases hi : Tryz.prog.info? 3 with
 | none => rw [hi] at h; cases h
 | some i => rw [hi] at h; exact ⟨i, rfl, by simpa using h⟩
theorem index_gaps {G : Array Value} {g : Nat → Int} (h : Gaps G g) (k : Nat) (hk : k < 4) (w : World) :
  (Instr.index 25 (.agg G) (.int .i64 (k : Int))).run Tryz.prog w = .ok (.agg #[.int .i64 (g (4 * k)), .int .i64 (g (4 * k + 1)), .int .i64 (g (4 * k + 2)), .int .i64 (g (4 * k + 3))]) w := by
 obtain ⟨i, hi, hs⟩ := info23
 have := run_index_row (P := Tryz.prog) Tryz.underlying25 Tryz.underlying24 rfl hi G .i64 k hk w
 rw [hs, h.row k hk] at this
 exact this
theorem index_row {g : Nat → Int} (k m : Nat) (hm : m < 4) (w : World) :
  (Instr.index 24 (.agg #[.int .i64 (g (4 * k)), .int .i64 (g (4 * k + 1)), .int .i64 (g (4 * k + 2)), .int .i64 (g (4 * k + 3))]) (.int .i64 (m : Int))).run Tryz.prog w = .ok (.int .i64 (g (4 * k + m))) w := by
 obtain ⟨i, hi, hs⟩ := info3
 exact run_index_cell (P := Tryz.prog) Tryz.underlying24 Tryz.underlying3 rfl hi hs _ .i64 m hm _ (row_cell k m hm) w
theorem gaps_step {g : Nat → Int} {k : Nat} (h : Hid (∀ i, i < k → gapOk (g i))) (hk : gapOk (g k)) : Hid (∀ i, i < k + 1 → gapOk (g i)) := fun i hi => by
 by_cases e : i = k
 ·subst e; exact hk
 ·exact h.out i (by omega)
theorem its_step {its : Nat → It} {k : Nat} (h : Hid (∀ i, i < k → (its i).ok)) (hk : (its k).ok) : Hid (∀ i, i < k + 1 → (its i).ok) := fun i hi => by
 by_cases e : i = k
 ·subst e; exact hk
 ·exact h.out i (by omega)
set_option maxRecDepth 100000 in
set_option maxHeartbeats 1000000 in
theorem ACheck_any (A : Option Addr) (n c : Nat) (its : Nat → It) (G : Array Value) (g : Nat → Int) (w : World) (hA : Sl w w.heap.size 4 A n (fun i => (its i).row)) (hn : n ≤ maxLen) (hG : Gaps G g) :
  Calls Tryz.prog 43 #[.slice A n c, .agg G] w fun e w' => e = .returned (.int .i64 (checkCode n its g)) ∧ Below w.heap.size w w' := by
 unfold maxLen at hn
 by_cases h32 : 32 < n
 ·have H := Lib.hid (checkCode_large (its := its) (g := g) h32)
  go_enter Tryz.func43, Tryz.ntmps43
  go_wp2
  go_ret
  exact ⟨ret_int H.out.symm, (Below.refl _ _).alloc (Nat.le_refl _) _⟩
 ·have hbase : Below w.heap.size w (w.alloc (.cells G 25)) := (Below.refl _ _).alloc (Nat.le_refl _) _
  have HS := Lib.hid hG.1
  go_enter Tryz.func43, Tryz.ntmps43
  go_wp2_with (refine wpList_load_row rfl 25 _ rfl w.heap.size rfl 25 G (0, 0) _ (heap_alloc_new w _) Tryz.underlying25 rfl (by rw [HS.out]; kernel_rfl) ?_)
  go_loopw [15] (fun k wr => ∃ r : Nat, r ≤ 4 ∧ k = .int .i64 r ∧ Hid (∀ i, i < 4 * r → gapOk (g i)) ∧ Below w.heap.size w wr) (fun k _ => 4 - (intOf k).toNat)
  case atStart => exact ⟨0, by omega, rfl, fun i hi => absurd hi (by omega), hbase⟩
  case round =>
   obtain ⟨r, hr, rfl, hok, hbel⟩ := hrel
   obtain ⟨wo, rfl⟩ : ∃ wo : World, wo = wr := ⟨_, rfl⟩
   by_cases hlt : r < 4
   ·have hix := fun W => index_gaps hG r hlt W
    have hd : decide ((r : Int) < 4) = true := decide_eq_true (by omega)
    go_wp2
    go_loopw [19] (fun k wr => ∃ m : Nat, m ≤ 4 ∧ k = .int .i64 m ∧ Hid (∀ i, i < 4 * r + m → gapOk (g i)) ∧ Below w.heap.size w wr) (fun k _ => 4 - (intOf k).toNat)
    case atStart => exact ⟨0, by omega, rfl, hok, hbel.alloc hbel.size _⟩
    case round =>
     obtain ⟨m, hm, rfl, hok2, hbel2⟩ := hrel
     clear hix
     by_cases hlm : m < 4
     ·have hix := fun W => index_row (g := g) r m hlm W
      go_wp2
      all_goals first
       | (go_ret
          exact ⟨ret_int (checkCode_gap h32 (4 * r + m) (by omega) (by unfold gapOk; omega)).symm, hbel2⟩)
       | (go_roundw
          case rel => exact ⟨m + 1, by omega, by go_num, gaps_step hok2 (by unfold gapOk; omega), hbel2⟩
          case measure => simp [intOf]; omega)
     ·go_wp2
      go_roundw
      case rel => exact ⟨r + 1, by omega, by go_num, fun i hi => hok2.out i (by omega), hbel2⟩
      case measure => simp [intOf]; omega
   ·go_wp2
    go_loopw [32] (fun k wr => ∃ i : Nat, i ≤ n ∧ k = .int .i64 i ∧ Hid (∀ j, j < i → (its j).ok) ∧ Below w.heap.size w wr) (fun k _ => n - (intOf k).toNat)
    case atStart => exact ⟨0, by omega, rfl, fun i hi => absurd hi (by omega), hbel⟩
    case round =>
     obtain ⟨i, hi, rfl, hits, hbel2⟩ := hrel
     by_cases hin : i < n
     ·obtain ⟨b, off, rfl, hb, hrow⟩ := hA (by omega)
      have hr := hrow i hin
      have c0 : wr.cell? ⟨b, off + i * 4, none⟩ = some (.string (its i).nm) := (hbel2.cell (p := ⟨b, off + i * 4, none⟩) hb).trans (hr 0 _ rfl)
      have c1 : wr.cell? ⟨b, off + i * 4 + 1, none⟩ = some (.int .i64 (its i).wk) := (hbel2.cell (p := ⟨b, off + i * 4 + 1, none⟩) hb).trans (hr 1 _ rfl)
      have c2 : wr.cell? ⟨b, off + i * 4 + 2, none⟩ = some (.int .i64 (its i).rd) := (hbel2.cell (p := ⟨b, off + i * 4 + 2, none⟩) hb).trans (hr 2 _ rfl)
      have c3 : wr.cell? ⟨b, off + i * 4 + 3, none⟩ = some (.int .i64 (its i).sl) := (hbel2.cell (p := ⟨b, off + i * 4 + 3, none⟩) hb).trans (hr 3 _ rfl)
      clear hr hrow
      go_wp2
      all_goals first
       | (go_ret
          exact ⟨ret_int (checkCode_it h32 i hin (by unfold It.ok; omega)).symm, hbel2.alloc hbel2.size _⟩)
       | (go_roundw
          case rel => exact ⟨i + 1, by omega, by go_num, its_step hits (by unfold It.ok; omega), hbel2.alloc hbel2.size _⟩
          case measure => simp [intOf]; omega)
     ·go_wp2
      go_ret
      exact ⟨ret_int (checkCode_ok h32 (fun j hj => hok.out j (by omega)) (fun j hj => hits.out j (by omega))).symm, hbel2⟩
end
section
open Go.RowKit
def gapV (g : Nat → Int) : Array Value := #[.int .i64 (g 0), .int .i64 (g 1), .int .i64 (g 2), .int .i64 (g 3), .int .i64 (g 4), .int .i64 (g 5), .int .i64 (g 6), .int .i64 (g 7), .int .i64 (g 8), .int .i64 (g 9), .int .i64 (g 10), .int .i64 (g 11), .int .i64 (g 12), .int .i64 (g 13), .int .i64 (g 14), .int .i64 (g 15)]
theorem gapV_ok (g : Nat → Int) : Gaps (gapV g) g := by
 refine ⟨rfl, fun i hi => ?_⟩
 match i, hi with
 | 0, _ => rfl
 | 1, _ => rfl
 | 2, _ => rfl
 | 3, _ => rfl
 | 4, _ => rfl
 | 5, _ => rfl
 | 6, _ => rfl
 | 7, _ => rfl
 | 8, _ => rfl
 | 9, _ => rfl
 | 10, _ => rfl
 | 11, _ => rfl
 | 12, _ => rfl
 | 13, _ => rfl
 | 14, _ => rfl
 | 15, _ => rfl
 | n + 16, h => exact absurd h (by omega)
def setupA (a b : Int) (g : Nat → Int) : Value := .agg #[.int .i64 a, .int .i64 b, .int .i64 (g 0), .int .i64 (g 1), .int .i64 (g 2), .int .i64 (g 3), .int .i64 (g 4), .int .i64 (g 5), .int .i64 (g 6), .int .i64 (g 7), .int .i64 (g 8), .int .i64 (g 9), .int .i64 (g 10), .int .i64 (g 11), .int .i64 (g 12), .int .i64 (g 13), .int .i64 (g 14), .int .i64 (g 15)]
def setE (a b : Int) (g : Nat → Int) : Int := if sepE a b ≠ 0 then sepE a b else if gapsOkB g then 0 else 4
theorem sl_nil (w : World) : Sl w w.heap.size 4 none 0 (fun i => (It.row ((fun _ => (⟨ByteArray.empty, 0, 0, 0⟩ : It)) i))) := fun h => absurd h (by omega)
theorem checkCode_nil (its : Nat → It) (g : Nat → Int) : checkCode 0 its g = if gapsOkB g then 0 else 4 := by
 unfold checkCode
 rw [if_neg (by omega)]
 have : itsOkB 0 its = true := rfl
 rw [this, Bool.and_true]
set_option maxRecDepth 100000 in
set_option maxHeartbeats 8000000 in
theorem CCheck_any (a b : Int) (g : Nat → Int) (w : World) : Calls Tryz.prog 13 #[setupA a b g] w fun e w' => e = .returned (.int .i64 (setE a b g)) ∧ Below w.heap.size w w' := by
 have HP := Lib.hid (fun W => CheckSep_any a b W)
 have HA := Lib.hid (fun W => ACheck_any none 0 0 (fun _ => (⟨ByteArray.empty, 0, 0, 0⟩ : It)) (gapV g) g W (sl_nil W) (by unfold maxLen; omega) (gapV_ok g))
 have HE : Hid (setE a b g = if sepE a b ≠ 0 then sepE a b else if gapsOkB g then 0 else 4) := Lib.hid rfl
 rw [checkCode_nil] at HA
 unfold gapV at HA
 unfold setupA
 generalize (if gapsOkB g then (0 : Int) else 4) = k at *
 generalize setE a b g = r at *
 generalize sepE a b = s at *
 have tok : True := trivial
 by_cases hs : s = 0
 ·subst hs
  rw [if_neg (by decide)] at HE
  go_enter Tryz.func13, Tryz.ntmps13
  go_wp2_with (first
   | (go_at_call 42; go_loud (refine (HP.out _).mono ?_; rintro e w1 ⟨rfl, hb1⟩; have HB1 := Lib.hid (((Below.refl _ w).alloc (Nat.le_refl _) _).trans (hb1.mono (by simp))); have hk := (hb1.block w.heap.size (by simp)).trans (heap_alloc_new _ _); clear hb1; have c2 : w1.cell? ⟨w.heap.size, 2, none⟩ = some (.int .i64 (g 0)) := cell_of_row w1 _ 2 _ 27 (0, 0) hk; have c3 : w1.cell? ⟨w.heap.size, 3, none⟩ = some (.int .i64 (g 1)) := cell_of_row w1 _ 3 _ 27 (0, 0) hk; have c4 : w1.cell? ⟨w.heap.size, 4, none⟩ = some (.int .i64 (g 2)) := cell_of_row w1 _ 4 _ 27 (0, 0) hk; have c5 : w1.cell? ⟨w.heap.size, 5, none⟩ = some (.int .i64 (g 3)) := cell_of_row w1 _ 5 _ 27 (0, 0) hk; have c6 : w1.cell? ⟨w.heap.size, 6, none⟩ = some (.int .i64 (g 4)) := cell_of_row w1 _ 6 _ 27 (0, 0) hk; have c7 : w1.cell? ⟨w.heap.size, 7, none⟩ = some (.int .i64 (g 5)) := cell_of_row w1 _ 7 _ 27 (0, 0) hk; have c8 : w1.cell? ⟨w.heap.size, 8, none⟩ = some (.int .i64 (g 6)) := cell_of_row w1 _ 8 _ 27 (0, 0) hk; have c9 : w1.cell? ⟨w.heap.size, 9, none⟩ = some (.int .i64 (g 7)) := cell_of_row w1 _ 9 _ 27 (0, 0) hk; have c10 : w1.cell? ⟨w.heap.size, 10, none⟩ = some (.int .i64 (g 8)) := cell_of_row w1 _ 10 _ 27 (0, 0) hk; have c11 : w1.cell? ⟨w.heap.size, 11, none⟩ = some (.int .i64 (g 9)) := cell_of_row w1 _ 11 _ 27 (0, 0) hk; have c12 : w1.cell? ⟨w.heap.size, 12, none⟩ = some (.int .i64 (g 10)) := cell_of_row w1 _ 12 _ 27 (0, 0) hk; have c13 : w1.cell? ⟨w.heap.size, 13, none⟩ = some (.int .i64 (g 11)) := cell_of_row w1 _ 13 _ 27 (0, 0) hk; have c14 : w1.cell? ⟨w.heap.size, 14, none⟩ = some (.int .i64 (g 12)) := cell_of_row w1 _ 14 _ 27 (0, 0) hk; have c15 : w1.cell? ⟨w.heap.size, 15, none⟩ = some (.int .i64 (g 13)) := cell_of_row w1 _ 15 _ 27 (0, 0) hk; have c16 : w1.cell? ⟨w.heap.size, 16, none⟩ = some (.int .i64 (g 14)) := cell_of_row w1 _ 16 _ 27 (0, 0) hk; have c17 : w1.cell? ⟨w.heap.size, 17, none⟩ = some (.int .i64 (g 15)) := cell_of_row w1 _ 17 _ 27 (0, 0) hk; clear hk))
   | (go_at_call 43; go_loud (refine (HA.out _).mono ?_; rintro e w2 ⟨rfl, hb2⟩)))
  go_ret
  exact ⟨ret_int HE.out.symm, HB1.out.trans (hb2.mono HB1.out.size)⟩
 ·rw [if_pos hs] at HE
  go_enter Tryz.func13, Tryz.ntmps13
  go_wp2_with (first
   | (go_at_call 42; go_loud (refine (HP.out _).mono ?_; rintro e w1 ⟨rfl, hb1⟩; have HB1 := Lib.hid (((Below.refl _ w).alloc (Nat.le_refl _) _).trans (hb1.mono (by simp))))))
  go_ret
  exact ⟨ret_int HE.out.symm, HB1.out⟩
end
section
open Go.RowKit
theorem run_exec_row {P : Program} {ρ : Operand → Value} {o : Oper} {w : World} (ty : TypeId) (x : Operand) (ho : o.op = .load ty x)
  (g : Nat) (hx : ρ x = .pointer (some ⟨g, 0, none⟩)) (t : TypeId) (cs : Array Value) (fr : Nat × Nat) (d : TypeDesc) (hg : w.heap[g]? = some (.cells cs t fr))
  (hu : P.underlying ty = some d) (hd : (match d with | .struct _ | .array _ _ => true | _ => false) = true) (hi : (P.info? ty).map (·.size) = some cs.size) : (execOp ρ o).run P w = .ok (.value (.agg cs)) w := by
 unfold execOp
 simp only [ho, hx, Instr.loadAt, Instr.sureAddr, Sem.run_bind, Sem.run_pure, Result.andThen_ok, run_loadVar_row w g t ty cs fr d hg hu hd hi]
def suA (S : Su) : Value := setupA S.lat S.vert S.g
def suE (S : Su) : Int := setE S.lat S.vert S.g
def suO (S : Su) : Obj := .cells #[.int .i64 S.lat, .int .i64 S.vert, .int .i64 (S.g 0), .int .i64 (S.g 1), .int .i64 (S.g 2), .int .i64 (S.g 3), .int .i64 (S.g 4), .int .i64 (S.g 5), .int .i64 (S.g 6), .int .i64 (S.g 7), .int .i64 (S.g 8), .int .i64 (S.g 9), .int .i64 (S.g 10), .int .i64 (S.g 11), .int .i64 (S.g 12), .int .i64 (S.g 13), .int .i64 (S.g 14), .int .i64 (S.g 15)] 27
theorem NewLog (w : World) : Calls Tryz.prog 28 #[] w fun x w' => x = .returned (.pointer (some ⟨w.heap.size, 0, none⟩)) ∧ w' = w.alloc (.cells #[.slice none 0 0] 123) := by
 go_enter Tryz.func28, Tryz.ntmps28
 go_wp2
 go_ret
 exact ⟨rfl, rfl⟩
def NewP (S : Su) (w : World) (e : Ending) (w' : World) : Prop :=
 (suE S ≠ 0 ∧ e = .returned (.tuple #[.pointer none, .int .i64 (suE S)]) ∧ Below w.heap.size w w') ∨
 (suE S = 0 ∧ ∃ g, e = .returned (.tuple #[.pointer (some ⟨g, 0, none⟩), .int .i64 0]) ∧ (∃ F : Nat → Prop, CeAt F g S newC w' ∧ ∀ b, F b → w.heap.size < b) ∧ Below w.heap.size w w')
set_option maxRecDepth 100000 in
set_option maxHeartbeats 8000000 in
theorem CNew_any (S : Su) (w : World) : Calls Tryz.prog 37 #[suA S] w (NewP S w) := by
 obtain ⟨V, hV⟩ : ∃ V, w.alloc (suO S) = V := ⟨_, rfl⟩
 have hbV : Below w.heap.size w V := by rw [← hV]; exact (Below.refl _ _).alloc (Nat.le_refl _) _
 have hzV : V.heap.size = w.heap.size + 1 := by rw [← hV, size_al]
 have hgB : V.heap[w.heap.size]? = some (suO S) := by rw [← hV]; exact heap_alloc_new _ _
 have HCk := Lib.hid (fun (W : World) => CCheck_any S.lat S.vert S.g W)
 have HV := Lib.hid hV
 have HBV := Lib.hid hbV
 have HZV := Lib.hid hzV
 have HGB := Lib.hid (fun (W : World) (hx : W.heap[w.heap.size]? = V.heap[w.heap.size]?) => (show W.heap[w.heap.size]? = some (.cells #[.int .i64 S.lat, .int .i64 S.vert, .int .i64 (S.g 0), .int .i64 (S.g 1), .int .i64 (S.g 2), .int .i64 (S.g 3), .int .i64 (S.g 4), .int .i64 (S.g 5), .int .i64 (S.g 6), .int .i64 (S.g 7), .int .i64 (S.g 8), .int .i64 (S.g 9), .int .i64 (S.g 10), .int .i64 (S.g 11), .int .i64 (S.g 12), .int .i64 (S.g 13), .int .i64 (S.g 14), .int .i64 (S.g 15)] 27) from hx.trans hgB))
 clear hgB hbV
 obtain ⟨k, hk⟩ : ∃ k, suE S = k := ⟨_, rfl⟩
 have HE := Lib.hid hk
 unfold suE at hk
 rw [hk] at HCk
 unfold suO at hV HV
 unfold suA setupA
 unfold setupA at HCk
 by_cases h0 : k = 0
 ·subst h0
  clear hk
  go_enter Tryz.func37, Tryz.ntmps37
  go_upto_region 4 with (first
   | (first | (refine wpList_load_row rfl 27 _ rfl w.heap.size rfl 27 _ (0, 0) _ (HGB.out V rfl) Tryz.underlying27 rfl (by kernel_rfl) ?_) | (refine wpList_load_row_w 27 _ rfl w.heap.size rfl rfl 27 _ (0, 0) _ (HGB.out V rfl) Tryz.underlying27 rfl (by kernel_rfl) ?_))
   | (go_at_call 13; go_loud (refine (HCk.out _).mono ?_; rintro e w1 ⟨rfl, hb1⟩; have HW := Lib.hid (hb1.block w.heap.size (by omega)); have HB1 := Lib.hid hb1; clear hb1)))
  have HS1 := Lib.hid (HGB.out w1 HW.out)
  refine wp_region_held_drew (S := (fun W => W.heap[w.heap.size]? = some (.cells #[.int .i64 S.lat, .int .i64 S.vert, .int .i64 (S.g 0), .int .i64 (S.g 1), .int .i64 (S.g 2), .int .i64 (S.g 3), .int .i64 (S.g 4), .int .i64 (S.g 5), .int .i64 (S.g 6), .int .i64 (S.g 7), .int .i64 (S.g 8), .int .i64 (S.g 9), .int .i64 (S.g 10), .int .i64 (S.g 11), .int .i64 (S.g 12), .int .i64 (S.g 13), .int .i64 (S.g 14), .int .i64 (S.g 15)] 27))) (by kernel_rfl) HS1.out (fun hHeld => ?_)
  refine wpAnyH_take (i := 0) (oi := ⟨some 10, _, _, _, _, _⟩) (v := ?v0) rfl (by kernel_rfl) (by kernel_rfl) (by kernel_rfl) (fun _ _ _ h => h) (Or.inl ⟨by rfl, ?y0⟩) hHeld ?r0
  trace_state
  case y0 => (intro W hSw; refine run_exec_row (P := Tryz.prog) 27 (.tmp 1) ?_ w.heap.size ?_ 27 _ (0, 0) _ hSw Tryz.underlying27 rfl (by kernel_rfl) <;> rfl)
  try simp only [Act.put, zI, zO, zS]
  refine wpAnyH_ready (rs := [1]) (by kernel_rfl) (by simp) ?_
  refine (AllReadyH.cons (o := ⟨some 11, _, _, _, _, _⟩) rfl (fun K hK => ?_) AllReadyH.nil)
  go_simp
  go_at_call 28
  refine (NewLog _).mono ?_
  rintro e w2 ⟨rfl, hw2⟩
  have hz1 : w.heap.size < w1.heap.size := (Array.getElem?_eq_some_iff.1 HS1.out).1
  have hb2 : Below w1.heap.size w1 w2 := by rw [hw2]; exact ((Below.refl _ w1).drew).alloc (Nat.le_refl _) _
  have HS2 := Lib.hid ((hb2.block w.heap.size hz1).trans HS1.out)
  have hz2 : w2.heap.size = w1.heap.size + 1 := by rw [hw2, size_al]; rfl
  have hl2 : w2.heap[w1.heap.size]? = some (.cells #[.slice none 0 0] 123 (0, 0)) := by rw [hw2]; exact heap_alloc_new w1.drew _
  have HB2 := Lib.hid hb2
  have HL2 := Lib.hid hl2
  clear hw2 hb2 hl2
  refine hK.out _ _ HS2.out (fun hHeld => ?_)
  clear hK K
  try simp only [Act.put, zI, zO, zS]
  refine wpAnyH_ready (rs := [2]) (by kernel_rfl) (by simp) ?_
  refine (AllReadyH.cons (o := ⟨some 12, _, _, _, _, _⟩) rfl (fun K hK => ?_) AllReadyH.nil)
  go_simp
  refine hK.out _ _ HS2.out (fun hHeld => ?_)
  clear hK K
  try simp only [Act.put, zI, zO, zS]
  refine wpAnyH_ready (rs := [3]) (by kernel_rfl) (by simp) ?_
  refine (AllReadyH.cons (o := ⟨some 13, _, _, _, _, _⟩) rfl (fun K hK => ?_) AllReadyH.nil)
  go_simp
  have HS3 := Lib.hid ((((Below.refl _ w2).alloc (Nat.le_refl _) (.cells (ceV S newC ⟨[], [], ⟨none, 0, 0⟩, ⟨none, 0, 0⟩, w1.heap.size, none, 0⟩) 102)).block w.heap.size (by omega)).trans HS2.out)
  have HB3 := Lib.hid ((Below.refl _ w2).alloc (Nat.le_refl _) (.cells (ceV S newC ⟨[], [], ⟨none, 0, 0⟩, ⟨none, 0, 0⟩, w1.heap.size, none, 0⟩) 102))
  have HC3 := Lib.hid (heap_alloc_new w2 (.cells (ceV S newC ⟨[], [], ⟨none, 0, 0⟩, ⟨none, 0, 0⟩, w1.heap.size, none, 0⟩) 102))
  have HZ3 := Lib.hid (size_al w2 (.cells (ceV S newC ⟨[], [], ⟨none, 0, 0⟩, ⟨none, 0, 0⟩, w1.heap.size, none, 0⟩) 102))
  change K _ (w2.alloc (.cells (ceV S newC ⟨[], [], ⟨none, 0, 0⟩, ⟨none, 0, 0⟩, w1.heap.size, none, 0⟩) 102))
  obtain ⟨w3, hw3⟩ : ∃ W, w2.alloc (.cells (ceV S newC ⟨[], [], ⟨none, 0, 0⟩, ⟨none, 0, 0⟩, w1.heap.size, none, 0⟩) 102) = W := ⟨_, rfl⟩
  rw [hw3] at HS3 HB3 HC3 HZ3 ⊢
  clear hw3
  refine hK.out _ _ HS3.out (fun hHeld => ?_)
  clear hK K
  try simp only [Act.put, zI, zO, zS]
  refine wpAnyH_ready (rs := [4]) (by kernel_rfl) (by simp) ?_
  refine (AllReadyH.cons (o := ⟨some 2, _, _, _, _, _⟩) rfl (fun K hK => ?_) AllReadyH.nil)
  go_simp
  refine hK.out _ _ HS3.out (fun hHeld => ?_)
  clear hK K
  try simp only [Act.put, zI, zO, zS]
  refine wpAnyH_ready (rs := [5]) (by kernel_rfl) (by simp) ?_
  refine (AllReadyH.cons (o := ⟨some 3, _, _, _, _, _⟩) rfl (fun K hK => ?_) AllReadyH.nil)
  go_simp
  refine hK.out _ _ HS3.out (fun hHeld => ?_)
  clear hK K
  try simp only [Act.put, zI, zO, zS]
  refine wpAnyH_done (by kernel_rfl) ?_ _
  go_wp2_with fail
  go_ret2
  have hz3 := HZ3.out
  have hw31 : Below w1.heap.size w1 w3 := HB2.out.trans (HB3.out.mono (by omega))
  have hl3 : w3.heap[w1.heap.size]? = some (.cells #[.slice none 0 0] 123 (0, 0)) := (HB3.out.block _ (by omega)).trans HL2.out
  refine .inr ⟨HE.out, w2.heap.size, by rw [hz2]; rfl, ⟨fun b => b = w1.heap.size ∨ b = w2.heap.size, ⟨_, ⟨fun b hb => by rcases hb with rfl | rfl <;> omega, .inr rfl, HC3.out, rfl, rfl, rfl, ⟨World.ownsRow_nil _ _ _ _, fun k hk => by cases hk⟩, fun i hi => absurd hi (by simp [newC]), fun i j k hi => absurd hi (by simp [newC]), rfl, ⟨World.ownsRow_nil _ _ _ _, fun k hk => by cases hk⟩, .inl rfl, ⟨hl3, World.ownsRow_nil _ _ _ _⟩, fun k hk => by cases hk⟩⟩, fun b hb => by rcases hb with rfl | rfl <;> omega⟩, ?_⟩
  exact (HBV.out.trans (HB1.out.mono HBV.out.size)).trans (hw31.mono (by omega))
 ·have eb : (k != 0) = true := by simpa using h0
  go_enter Tryz.func37, Tryz.ntmps37
  go_wp2_with (first
   | (first | (refine wpList_load_row rfl 27 _ rfl w.heap.size rfl 27 _ (0, 0) _ (HGB.out V rfl) Tryz.underlying27 rfl (by kernel_rfl) ?_) | (refine wpList_load_row_w 27 _ rfl w.heap.size rfl rfl 27 _ (0, 0) _ (HGB.out V rfl) Tryz.underlying27 rfl (by kernel_rfl) ?_))
   | (go_at_call 13; go_loud (refine (HCk.out _).mono ?_; rintro e w1 ⟨rfl, hb1⟩; have HW := Lib.hid (hb1.block w.heap.size (by omega)); have HB1 := Lib.hid hb1; clear hb1)))
  go_ret2
  exact .inl ⟨by rw [HE.out]; exact h0, by rw [HE.out]; rfl, HBV.out.trans (HB1.out.mono HBV.out.size)⟩
end
section
open Go.RowKit
section
variable {F G : Nat → Prop} {g : Nat} {S : Su} {c : Ce} {y : Lay} {w W W' : World}
theorem CeM.anew (h : CeM F g S c y W) (hs : ∀ k, F k → G k) (hcl : Clean F (fun _ => False) W W') (hG : ∀ b, G b → b < W'.heap.size) (fl' : List Fl) (ow' : List Ow) (fs' : List Fm) (ts' : List (List Hd)) (fh' oh' : Hd)
  (hcs : W'.heap[g]? = some (.cells (ceV S { c with fl := fl', ow := ow' } { y with fs := fs', ts := ts', fh := fh', oh := oh' }) 102 (0, 0))) (hfn : fs'.length = fl'.length) (htn : ts'.length = fl'.length) (hfh : fh'.n = fl'.length) (hrow : OwnF G W' 46 8 fh'.v fl'.length (rowsV fmV fs'))
  (hfl : ∀ i, i < fl'.length → FlM G fs'[i]! ts'[i]! fl'[i]! W') (hap : ∀ i j k, i < fl'.length → j < fl'.length → i ≠ j → (Value.slice (fs'[i]!).la (fs'[i]!).ln (fs'[i]!).lc).ownBlock = some k → (Value.slice (fs'[j]!).la (fs'[j]!).ln (fs'[j]!).lc).ownBlock ≠ some k)
  (hoh : oh'.n = ow'.length) (how : OwnF G W' 136 3 oh'.v ow'.length (rowsV owV ow')) : CeM G g S { c with fl := fl', ow := ow' } { y with fs := fs', ts := ts', fh := fh', oh := oh' } W' :=
 ⟨hG, hs _ h.fg, hcs, hfn, htn, hfh, hrow, hfl, hap, hoh, how, hs _ h.lg, Clean.log (c := c) (y := y) hcl h, fun k hk => hs k (h.lrow k hk)⟩
theorem set_two {cur : Array Value} {a b : Value} (h : W.heap[g]? = some (.cells cur 102 (0, 0))) : ((W.setCell ⟨g, 19, none⟩ a).setCell ⟨g, 20, none⟩ b).heap[g]? = some (.cells ((cur.setIfInBounds 19 a).setIfInBounds 20 b) 102 (0, 0)) :=
 heap_setCell_same _ _ _ _ _ _ (heap_setCell_same _ _ _ _ _ _ h)
theorem two_other {a b : Value} (k : Nat) (hk : k ≠ g) : ((W.setCell ⟨g, 19, none⟩ a).setCell ⟨g, 20, none⟩ b).heap[k]? = W.heap[k]? :=
 (Below.heap_setCell _ _ _ _ hk).trans (Below.heap_setCell _ _ _ _ hk)
theorem two_size {a b : Value} : ((W.setCell ⟨g, 19, none⟩ a).setCell ⟨g, 20, none⟩ b).heap.size = W.heap.size := by simp [World.setCell]
end
theorem end_fin {F : Nat → Prop} {g : Nat} {S : Su} {c : Ce} {y : Lay} {w W4 w5 : World} (x : Inp) (_hok : CeOk c) (hM : CeM F g S c y W4) (hbd : ∀ b, F b → b < w.heap.size) (hW : Below w.heap.size w W4) (p : Nat) (hp : p < c.fl.length) (hpe : lowO c.ow x.call = p) {b : Nat} (hA : y.fh.A = some ⟨b, 0, none⟩)
  (A1 : Option Addr) (base co : Nat) (hbase : w.heap.size ≤ base) (hnew : W4.ownsRow base 136 3 (.slice A1 (delL c.ow p).length co) (delL c.ow p).length (rowsV owV (delL c.ow p))) (hg : W4.grownBy w5 (some b))
  (hrow : w5.ownsRow 0 46 8 (.slice (some ⟨b, 0, none⟩) (c.fl.length - 1) y.fh.c) (c.fl.length - 1) ((rowsV fmV y.fs).take (p * 8) ++ (rowsV fmV y.fs).drop ((p + 1) * 8))) :
  MethP F g S w (endC c x, 0) (.returned (.int .i64 0)) ((w5.setCell ⟨g, 19, none⟩ (.slice (some ⟨b, 0, none⟩) (c.fl.length - 1) y.fh.c)).setCell ⟨g, 20, none⟩ (.slice A1 (delL c.ow p).length co)) := by
 obtain ⟨b', hA', hFb, hbl, cur, hbc⟩ := hM.fblk (by omega)
 rw [hA] at hA'; cases hA'
 have hgb := hM.gne hbc
 have hzW := hW.size
 have hz5 := hg.size
 have hg5 : w5.heap[g]? = W4.heap[g]? := hg.block g (hM.bd g hM.fg) (fun e => hgb (by cases e; rfl))
 have hcl5 : Clean F (fun _ => False) W4 w5 := Clean.grown hg (fun k hk => by cases hk; exact ⟨cur, 46, hbc, .inr (.inl rfl)⟩)
 have hcs5 := hg5.trans hM.cs
 have hcl : Clean F (fun _ => False) W4 ((w5.setCell ⟨g, 19, none⟩ (.slice (some ⟨b, 0, none⟩) (c.fl.length - 1) y.fh.c)).setCell ⟨g, 20, none⟩ (.slice A1 (delL c.ow p).length co)) := by
  refine (hcl5.set _ ⟨_, _, hcs5, .inl rfl⟩).set _ ?_
  obtain ⟨cur', hc'⟩ := set_typed hcs5 ⟨g, 19, none⟩ (.slice (some ⟨b, 0, none⟩) (c.fl.length - 1) y.fh.c) rfl
  exact ⟨cur', 102, hc', .inl rfl⟩
 have hlen : (delL c.fl p).length = c.fl.length - 1 := by unfold delL; simp; omega
 have hlfs : (delL y.fs p).length = c.fl.length - 1 := by unfold delL; simp [hM.fn]; omega
 have hlts : (delL y.ts p).length = c.fl.length - 1 := by unfold delL; simp [hM.tn]; omega
 have hold : ∀ {e : TypeId} {size n : Nat} {v : Value} {xs : List Value} {H : Nat → Prop}, OwnF H w5 e size v n xs → e ≠ 102 → OwnF H ((w5.setCell ⟨g, 19, none⟩ (.slice (some ⟨b, 0, none⟩) (c.fl.length - 1) y.fh.c)).setCell ⟨g, 20, none⟩ (.slice A1 (delL c.ow p).length co)) e size v n xs := fun ho he => ho.stay fun k hk => two_other k (fun e => by
  have := ho.other hcs5 (fun e => he e.symm)
  exact this (by rw [hk, e]))
 refine ⟨rfl, fun k => F k ∨ (w.heap.size ≤ k ∧ k < w5.heap.size), ?_, ?_, fun k hk => hk.elim .inl (fun h => .inr h.1)⟩
 ·have hS : (endC c x, (0 : Int)).1 = { c with fl := delL c.fl p, ow := delL c.ow p } := by unfold endC; rw [hpe]
  rw [hS]
  refine CeM.at_ (y := { y with fs := delL y.fs p, ts := delL y.ts p, fh := ⟨some ⟨b, 0, none⟩, c.fl.length - 1, y.fh.c⟩, oh := ⟨A1, (delL c.ow p).length, co⟩ }) ?_
  refine hM.anew (fun _ h => .inl h) hcl (fun k hk => by rw [two_size]; exact hk.elim (fun h => by have := hbd k h; omega) (fun h => h.2)) _ _ _ _ _ _ (set_two hcs5) (by rw [hlen, hlfs]) (by rw [hlen, hlts]) (by rw [hlen]) ?_ (fun i hi => ?_) (fun i j k hi hj hij => ?_) rfl ?_
  ·refine hold ⟨?_, fun k hk => ?_⟩ (by decide)
   ·rw [hlen, ← show (rowsV fmV y.fs).take (p * 8) ++ (rowsV fmV y.fs).drop ((p + 1) * 8) = rowsV fmV (delL y.fs p) from rowsV_cut fmV_len y.fs p (by rw [hM.fn]; exact hp)]
    exact hrow
   ·have hk' : b = k := by simpa [Hd.v, Value.ownBlock] using hk
    subst hk'
    exact .inl hFb
  ·rw [hlen] at hi
   rw [del_at y.fs p (by rw [hM.fn]; exact hp) i (by rw [hM.fn]; omega), del_at y.ts p (by rw [hM.tn]; exact hp) i (by rw [hM.tn]; omega), del_at c.fl p hp i (by omega)]
   by_cases e : i < p
   ·rw [if_pos e, if_pos e, if_pos e]; exact (hcl.fl hM i (by omega) (fun _ _ h => h)).mono (fun _ h => .inl h)
   ·rw [if_neg e, if_neg e, if_neg e]; exact (hcl.fl hM (i + 1) (by omega) (fun _ _ h => h)).mono (fun _ h => .inl h)
  ·rw [hlen] at hi hj
   rw [del_at y.fs p (by rw [hM.fn]; exact hp) i (by rw [hM.fn]; omega), del_at y.fs p (by rw [hM.fn]; exact hp) j (by rw [hM.fn]; omega)]
   by_cases e : i < p
   ·rw [if_pos e]
    by_cases e2 : j < p
    ·rw [if_pos e2]; exact hM.apart i j k (by omega) (by omega) hij
    ·rw [if_neg e2]; exact hM.apart i (j + 1) k (by omega) (by omega) (by omega)
   ·rw [if_neg e]
    by_cases e2 : j < p
    ·rw [if_pos e2]; exact hM.apart (i + 1) j k (by omega) (by omega) (by omega)
    ·rw [if_neg e2]; exact hM.apart (i + 1) (j + 1) k (by omega) (by omega) (by omega)
  ·have hn4 : OwnF (fun k => F k ∨ (w.heap.size ≤ k ∧ k < w5.heap.size)) W4 136 3 (.slice A1 (delL c.ow p).length co) (delL c.ow p).length (rowsV owV (delL c.ow p)) := ⟨own_mono hnew (Nat.zero_le _), fun k hk => by
    have := hnew.lt k hk
    exact .inr ⟨by omega, by omega⟩⟩
   exact hold (hn4.stay fun k hk => hg.block k (hn4.1.lt k hk).2 (fun e => hn4.other hbc (by decide) (by rw [hk]; exact e))) (by decide)
 ·have ho : Off F w w5 := (Off.of_below hW).trans' (Off.grown (F := F) hg (fun k hk => by cases hk; exact hFb))
  exact (ho.setCell (p := ⟨g, 19, none⟩) (.inl hM.fg) _).setCell (p := ⟨g, 20, none⟩) (.inl hM.fg) _
theorem file_fin {F : Nat → Prop} {g : Nat} {S : Su} {c : Ce} {y : Lay} {w W4 w5 : World} (x : Inp) (hM : CeM F g S c y W4) (hbd : ∀ b, F b → b < w.heap.size) (hW : Below w.heap.size w W4) (hp : lowO c.ow x.call ≤ c.fl.length)
  (A1 : Option Addr) (base co : Nat) (hbase : w.heap.size ≤ base) (hnew : W4.ownsRow base 136 3 (.slice A1 (insO c.ow ⟨x.call, x.by_, .empty⟩).length co) (insO c.ow ⟨x.call, x.by_, .empty⟩).length (rowsV owV (insO c.ow ⟨x.call, x.by_, .empty⟩)))
  (xf : Fm) (ts : List Hd) (hxf : FlM (fun k => w.heap.size ≤ k) xf ts (newF S c x) W4) (g6 c6 : Nat) (hg : W4.grownBy w5 (Value.slice y.fh.A y.fh.n y.fh.c).ownBlock) (hat : (Value.slice y.fh.A y.fh.n y.fh.c).ownBlock = some g6 ∨ W4.heap.size ≤ g6)
  (hrow : w5.ownsRow 0 46 8 (.slice (some ⟨g6, 0, none⟩) (c.fl.length + 1) c6) (c.fl.length + 1) ((rowsV fmV y.fs).take (lowO c.ow x.call * 8) ++ fmV xf ++ (rowsV fmV y.fs).drop (lowO c.ow x.call * 8))) :
  MethP F g S w (fileC S c x, 0) (.returned (.int .i64 0)) ((w5.setCell ⟨g, 19, none⟩ (.slice (some ⟨g6, 0, none⟩) (c.fl.length + 1) c6)).setCell ⟨g, 20, none⟩ (.slice A1 (insO c.ow ⟨x.call, x.by_, .empty⟩).length co)) := by
 obtain ⟨p, hpe⟩ : ∃ p, lowO c.ow x.call = p := ⟨_, rfl⟩
 rw [hpe] at hp hrow
 obtain ⟨m, hm⟩ : ∃ m, insO c.ow ⟨x.call, x.by_, .empty⟩ = m := ⟨_, rfl⟩
 rw [hm] at hnew ⊢
 have hgne : (Value.slice y.fh.A y.fh.n y.fh.c).ownBlock ≠ some g := hM.fown.other hM.cs (by decide)
 have hzW := hW.size
 have hz5 := hg.size
 have hg5 : w5.heap[g]? = W4.heap[g]? := hg.block g (hM.bd g hM.fg) (fun e => hgne e.symm)
 have hcl5 : Clean F (fun _ => False) W4 w5 := Clean.grown hg (fun k hk => by
  obtain ⟨cur, hc⟩ := hM.fown.blk (show y.fh.v.ownBlock = some k from hk)
  exact ⟨cur, 46, hc, .inr (.inl rfl)⟩)
 have hcs5 := hg5.trans hM.cs
 have hcl : Clean F (fun _ => False) W4 ((w5.setCell ⟨g, 19, none⟩ (.slice (some ⟨g6, 0, none⟩) (c.fl.length + 1) c6)).setCell ⟨g, 20, none⟩ (.slice A1 m.length co)) := by
  refine (hcl5.set _ ⟨_, _, hcs5, .inl rfl⟩).set _ ?_
  obtain ⟨cur', hc'⟩ := set_typed hcs5 ⟨g, 19, none⟩ (.slice (some ⟨g6, 0, none⟩) (c.fl.length + 1) c6) rfl
  exact ⟨cur', 102, hc', .inl rfl⟩
 have hlen : (insF c.fl p (newF S c x)).length = c.fl.length + 1 := by unfold insF; simp; omega
 have hlfs : (y.fs.take p ++ xf :: y.fs.drop p).length = c.fl.length + 1 := by simp [hM.fn]; omega
 have hlts : (y.ts.take p ++ ts :: y.ts.drop p).length = c.fl.length + 1 := by simp [hM.tn]; omega
 have hold : ∀ {e : TypeId} {size n : Nat} {v : Value} {xs : List Value} {H : Nat → Prop}, OwnF H w5 e size v n xs → e ≠ 102 → OwnF H ((w5.setCell ⟨g, 19, none⟩ (.slice (some ⟨g6, 0, none⟩) (c.fl.length + 1) c6)).setCell ⟨g, 20, none⟩ (.slice A1 m.length co)) e size v n xs := fun ho he => ho.stay fun k hk => two_other k (fun e => by
  have := ho.other hcs5 (fun e => he e.symm)
  exact this (by rw [hk, e]))
 have hnt : ∀ {e : TypeId} {size n : Nat} {v : Value} {xs : List Value} {H : Nat → Prop}, OwnF H W4 e size v n xs → e ≠ 102 → e ≠ 46 → OwnF H ((w5.setCell ⟨g, 19, none⟩ (.slice (some ⟨g6, 0, none⟩) (c.fl.length + 1) c6)).setCell ⟨g, 20, none⟩ (.slice A1 m.length co)) e size v n xs := fun ho he he2 => hold (ho.stay fun k hk => hg.block k (ho.1.lt k hk).2 (fun e => by
  obtain ⟨cur, hc⟩ := hM.fown.blk (show y.fh.v.ownBlock = some k from e.symm)
  exact ho.other hc (fun e => he2 e.symm) hk)) he
 have hg6 : g6 < w5.heap.size := (hrow.lt g6 rfl).2
 refine ⟨rfl, fun k => F k ∨ (w.heap.size ≤ k ∧ k < w5.heap.size), ?_, ?_, fun k hk => hk.elim .inl (fun h => .inr h.1)⟩
 ·have hS : (fileC S c x, (0 : Int)).1 = { c with fl := insF c.fl p (newF S c x), ow := m } := by unfold fileC; rw [hpe, hm]
  rw [hS]
  refine CeM.at_ (y := { y with fs := y.fs.take p ++ xf :: y.fs.drop p, ts := y.ts.take p ++ ts :: y.ts.drop p, fh := ⟨some ⟨g6, 0, none⟩, c.fl.length + 1, c6⟩, oh := ⟨A1, m.length, co⟩ }) ?_
  have hnewF : FlM (fun k => F k ∨ (w.heap.size ≤ k ∧ k < w5.heap.size)) xf ts (newF S c x) ((w5.setCell ⟨g, 19, none⟩ (.slice (some ⟨g6, 0, none⟩) (c.fl.length + 1) c6)).setCell ⟨g, 20, none⟩ (.slice A1 m.length co)) := by
   have hm2 : ∀ {e : TypeId} {size n : Nat} {v : Value} {xs : List Value}, OwnF (fun k => w.heap.size ≤ k) W4 e size v n xs → OwnF (fun k => F k ∨ (w.heap.size ≤ k ∧ k < w5.heap.size)) W4 e size v n xs := fun ho => ⟨ho.1, fun k hk => .inr ⟨ho.2 k hk, by have := (ho.1.lt k hk).2; omega⟩⟩
   exact ⟨hxf.call, hxf.wake, hxf.slot, hxf.lands, hxf.land, hxf.nland, hxf.ln, hxf.tl, hnt (hm2 hxf.legs) (by decide) (by decide), fun j hj => ⟨(hxf.leg j hj).1, hnt (hm2 (hxf.leg j hj).2) (by decide) (by decide)⟩, ⟨hxf.next.1, hnt (hm2 hxf.next.2) (by decide) (by decide)⟩⟩
  have hnewb : ∀ i k, i < c.fl.length → (Value.slice xf.la xf.ln xf.lc).ownBlock = some k → (Value.slice (y.fs[i]!).la (y.fs[i]!).ln (y.fs[i]!).lc).ownBlock ≠ some k := fun i k hi hk hk2 => by
   have h1 := hxf.legs.2 k hk
   have h2 := hbd k ((hM.fl i hi).legs.2 k hk2)
   omega
  refine hM.anew (fun _ h => .inl h) hcl (fun k hk => by rw [two_size]; exact hk.elim (fun h => by have := hbd k h; omega) (fun h => h.2)) _ _ _ _ _ _ (set_two hcs5) (by rw [hlen, hlfs]) (by rw [hlen, hlts]) (by rw [hlen]) ?_ (fun i hi => ?_) (fun i j k hi hj hij => ?_) rfl ?_
  ·refine hold ⟨?_, fun k hk => ?_⟩ (by decide)
   ·rw [hlen, ← show (rowsV fmV y.fs).take (p * 8) ++ fmV xf ++ (rowsV fmV y.fs).drop (p * 8) = rowsV fmV (y.fs.take p ++ xf :: y.fs.drop p) from rowsV_ins fmV_len y.fs p (by rw [hM.fn]; exact hp) xf]
    exact hrow
   ·have hk' : g6 = k := by simpa [Hd.v, Value.ownBlock] using hk
    subst hk'
    rcases hat with hat | hat
    ·exact .inl (hM.fown.2 _ hat)
    ·exact .inr ⟨by omega, hg6⟩
  ·rw [hlen] at hi
   unfold insF
   rw [ins_at y.fs p (by rw [hM.fn]; exact hp) xf i (by rw [hM.fn]; omega), ins_at y.ts p (by rw [hM.tn]; exact hp) ts i (by rw [hM.tn]; omega), ins_at c.fl p hp _ i (by omega)]
   by_cases e : i < p
   ·rw [if_pos e, if_pos e, if_pos e]; exact (hcl.fl hM i (by omega) (fun _ _ h => h)).mono (fun _ h => .inl h)
   ·rw [if_neg e, if_neg e, if_neg e]
    by_cases e2 : i = p
    ·rw [if_pos e2, if_pos e2, if_pos e2]; exact hnewF
    ·rw [if_neg e2, if_neg e2, if_neg e2]; exact (hcl.fl hM (i - 1) (by omega) (fun _ _ h => h)).mono (fun _ h => .inl h)
  ·rw [hlen] at hi hj
   rw [ins_at y.fs p (by rw [hM.fn]; exact hp) xf i (by rw [hM.fn]; omega), ins_at y.fs p (by rw [hM.fn]; exact hp) xf j (by rw [hM.fn]; omega)]
   by_cases e : i < p
   ·rw [if_pos e]
    by_cases e2 : j < p
    ·rw [if_pos e2]; exact hM.apart i j k (by omega) (by omega) hij
    ·rw [if_neg e2]
     by_cases e3 : j = p
     ·rw [if_pos e3]; exact fun h1 h2 => hnewb i k (by omega) h2 h1
     ·rw [if_neg e3]; exact hM.apart i (j - 1) k (by omega) (by omega) (by omega)
   ·rw [if_neg e]
    by_cases e4 : i = p
    ·rw [if_pos e4]
     by_cases e2 : j < p
     ·rw [if_pos e2]; exact hnewb j k (by omega)
     ·rw [if_neg e2, if_neg (by omega)]; exact hnewb (j - 1) k (by omega)
    ·rw [if_neg e4]
     by_cases e2 : j < p
     ·rw [if_pos e2]; exact hM.apart (i - 1) j k (by omega) (by omega) (by omega)
     ·rw [if_neg e2]
      by_cases e3 : j = p
      ·rw [if_pos e3]; exact fun h1 h2 => hnewb (i - 1) k (by omega) h2 h1
      ·rw [if_neg e3]; exact hM.apart (i - 1) (j - 1) k (by omega) (by omega) (by omega)
  ·have hn4 : OwnF (fun k => F k ∨ (w.heap.size ≤ k ∧ k < w5.heap.size)) W4 136 3 (.slice A1 m.length co) m.length (rowsV owV m) := ⟨own_mono hnew (Nat.zero_le _), fun k hk => by
    have := hnew.lt k hk
    exact .inr ⟨by omega, by omega⟩⟩
   exact hnt hn4 (by decide) (by decide)
 ·have ho : Off F w w5 := (Off.of_below hW).trans' (Off.grown (F := F) hg (fun k hk => hM.fown.2 k hk))
  exact (ho.setCell (p := ⟨g, 19, none⟩) (.inl hM.fg) _).setCell (p := ⟨g, 20, none⟩) (.inl hM.fg) _
end
end Go.Proofs.YtaebebpldkciiaaGreatDoor
