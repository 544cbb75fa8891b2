/- Package centre: a setup in a block, copies of flights, checkFlight and Places of sound flights. -/
import Derived.Test.YtaebebpldkciiaaGreatDoorQB1
import Derived.Test.YtaebebpldkciiaaGreatDoorQG04
import Derived.Test.YtaebebpldkciiaaGreatDoorQG13
namespace Go.Proofs.YtaebebpldkciiaaGreatDoor
open Go.RowKit
def suL (S : Su) : Array Value := #[.int .i64 S.lat, .int .i64 S.vert, .int .i64 (S.g 0), .int .i64 (S.g 1), .int .i64 (S.g 2), .int .i64 (S.g 3), .int .i64 (S.g 4), .int .i64 (S.g 5), .int .i64 (S.g 6), .int .i64 (S.g 7), .int .i64 (S.g 8), .int .i64 (S.g 9), .int .i64 (S.g 10), .int .i64 (S.g 11), .int .i64 (S.g 12), .int .i64 (S.g 13), .int .i64 (S.g 14), .int .i64 (S.g 15)]
def SuAt (S : Su) (b : Nat) (w : World) : Prop := w.heap[b]? = some (.cells (suL S) 27 (0, 0))
theorem SuAt.gap {S : Su} {b : Nat} {w : World} (h : SuAt S b w) {i j : Nat} (hi : i < 4) (hj : j < 4) : w.cell? ⟨b, 2 + i * 4 + j, none⟩ = some (.int .i64 (S.g (4 * i + j))) := by
 rw [cell_of_row w b _ _ _ _ h]
 match i, j, hi, hj with
 | 0, 0, _, _ => rfl
 | 0, 1, _, _ => rfl
 | 0, 2, _, _ => rfl
 | 0, 3, _, _ => rfl
 | 1, 0, _, _ => rfl
 | 1, 1, _, _ => rfl
 | 1, 2, _, _ => rfl
 | 1, 3, _, _ => rfl
 | 2, 0, _, _ => rfl
 | 2, 1, _, _ => rfl
 | 2, 2, _, _ => rfl
 | 2, 3, _, _ => rfl
 | 3, 0, _, _ => rfl
 | 3, 1, _, _ => rfl
 | 3, 2, _, _ => rfl
 | 3, 3, _, _ => rfl
 | i + 4, j, h, _ => exact absurd h (by omega)
 | i, j + 4, _, h => exact absurd h (by omega)
theorem TuA.lst {A : Option Addr} {n : Nat} {l : Tu} {w : World} (h : TuA A n l w) (h0 : 0 < n) : ∃ b off, A = some ⟨b, off, none⟩ ∧ b < w.heap.size ∧ w.cell? ⟨b, off + (n - 1) * 6, none⟩ = some (.int .i64 (lstT l)) := by
 obtain ⟨b, off, hA, hb, hr⟩ := h.2 h0
 refine ⟨b, off, hA, hb, ?_⟩
 have := hr (n - 1) (by omega) 0 _ rfl
 rw [Nat.add_zero] at this
 rw [this]
 unfold lstT
 rw [h.1]
theorem CpX.cells {F : Nat → Prop} {v : Hd} {xs : List Fm} {ts : List (List Hd)} {fl : List Fl} {w : World} (h : CpX F v xs ts fl w) {i : Nat} (hi : i < fl.length) : ∃ b, v.A = some ⟨b, 0, none⟩ ∧ b < w.heap.size ∧ ∀ q, q < 8 → w.cell? ⟨b, i * 8 + q, none⟩ = (fmV xs[i]!)[q]? := by
 obtain ⟨b, cap, hv, _, hb⟩ := h.own.1.form (by omega)
 have hv' : Value.slice v.A v.n v.c = .slice (some ⟨b, 0, none⟩) fl.length cap := hv
 have hA : v.A = some ⟨b, 0, none⟩ := by injection hv'
 have ho := h.own.1
 rw [hv] at ho
 refine ⟨b, hA, hb, fun q hq => ?_⟩
 rw [ho.cellAt (i * 8 + q) (by omega), rowsV_at fmV_len xs i (by rw [h.xn]; exact hi) q hq, getElem!_pos xs i (by rw [h.xn]; exact hi)]
theorem takeFl {A : Option Addr} {c : Nat} (n q : Nat) (hq : q ≤ n) (hn : n ≤ c) (hc : c ≤ maxLen) (hnil : A = none → n = 0 ∧ c = 0) : ∃ A2 c2, (∀ W, (Instr.slice 40 (.slice A n c) none (some (.int .i64 (q : Int))) none).run Tryz.prog W = .ok (.slice A2 q c2) W) ∧ (0 < q → A2 = A) := by
 unfold maxLen at hc
 have h0 : (0 : Int) ≤ (q : Int) := by omega
 have h1 : (q : Int) ≤ (n : Int) := by omega
 have h2 : (n : Int) ≤ (c : Int) := by omega
 have h3 : (q : Int) ≤ (c : Int) := by omega
 have c23 : Tryz.prog.cellsOf 46 = 8 := by kernel_rfl
 cases A with
 | none =>
  obtain ⟨rfl, rfl⟩ := hnil rfl
  obtain rfl : q = 0 := by omega
  refine ⟨none, 0, fun W => ?_, fun h => absurd h (by omega)⟩
  go_simp
 | some a =>
  refine ⟨if c = 0 then some a else some (a.add (0 * 8)), c, fun W => ?_, fun hq0 => ?_⟩
  ·go_simp
  ·rw [if_neg (by omega)]; simp [Addr.add]
theorem CpX.capN {F : Nat → Prop} {v : Hd} {xs : List Fm} {ts : List (List Hd)} {fl : List Fl} {w : World} (h : CpX F v xs ts fl w) : v.n ≤ v.c ∧ v.c ≤ maxLen ∧ (v.A = none → v.n = 0 ∧ v.c = 0) := by
 have ho := h.own.1
 unfold Hd.v at ho
 rw [← h.n] at ho
 have := own_cap ho
 exact ⟨this.1, this.2, own_nil ho⟩
theorem calls_inj {c : Ce} (h : CeOk c) {i j : Nat} (hi : i < c.fl.length) (hj : j < c.fl.length) (he : (c.fl[i]!).call = (c.fl[j]!).call) : i = j := by
 have hlen := h.len
 have key : ∀ k, k < c.fl.length → (c.fl[k]!).call = (c.ow[k]!).call := fun k hk => by
  have h2 := congrArg (fun l => l[k]?) h.calls
  simp only [List.getElem?_map] at h2
  rw [List.getElem?_eq_getElem hk, List.getElem?_eq_getElem (by omega : k < c.ow.length)] at h2
  simp only [Option.map_some, Option.some.injEq] at h2
  rw [getElem!_pos c.fl k hk, getElem!_pos c.ow k (by omega), h2]
 rw [key i hi, key j hj] at he
 have hpw := h.ow.pw
 rcases Nat.lt_trichotomy i j with h1 | h1 | h1
 ·have h2 := List.pairwise_iff_getElem.1 hpw i j (by omega) (by omega) h1
  rw [getElem!_pos c.ow i (by omega), getElem!_pos c.ow j (by omega)] at he
  unfold ltO at h2
  rw [he] at h2
  exact absurd h2 (by rw [lsS_irr]; decide)
 ·exact h1
 ·have h2 := List.pairwise_iff_getElem.1 hpw j i (by omega) (by omega) h1
  rw [getElem!_pos c.ow i (by omega), getElem!_pos c.ow j (by omega)] at he
  unfold ltO at h2
  rw [he] at h2
  exact absurd h2 (by rw [lsS_irr]; decide)
theorem TuA.fst {A : Option Addr} {n : Nat} {l : Tu} {w : World} (h : TuA A n l w) (h0 : 0 < n) : ∃ b off, A = some ⟨b, off, none⟩ ∧ b < w.heap.size ∧ w.cell? ⟨b, off, none⟩ = some (.int .i64 (fstT l)) := by
 obtain ⟨b, off, hA, hb, hr⟩ := h.2 h0
 refine ⟨b, off, hA, hb, ?_⟩
 have h1 : w.cell? ⟨b, off + 0 * 6 + 0, none⟩ = some (.int .i64 (fstT l)) := hr 0 (by omega) 0 _ rfl
 rwa [show off + 0 * 6 + 0 = off by omega] at h1
theorem FlM.legCells {F : Nat → Prop} {x : Fm} {ts : List Hd} {f : Fl} {w : World} (h : FlM F x ts f w) (h0 : 0 < f.legs.length) : ∃ bl, x.la = some ⟨bl, 0, none⟩ ∧ bl < w.heap.size ∧ ∀ q, q < f.legs.length → w.cell? ⟨bl, q, none⟩ = some (.slice (ts[q]!).A (ts[q]!).n (ts[q]!).c) := by
 have hl := h.legs.1
 have hln := h.ln
 rw [← hln] at hl
 obtain ⟨bl, cap, hv, _, hb⟩ := hl.form (by omega)
 have hA : x.la = some ⟨bl, 0, none⟩ := by injection hv
 rw [hA] at hl
 refine ⟨bl, hA, hb, fun q hq => ?_⟩
 rw [hl.cellAt q (by omega)]
 have := rowsV_at hdV_len ts q (by rw [h.tl]; exact hq) 0 (by omega)
 rw [Nat.mul_one, Nat.add_zero] at this
 rw [this, getElem!_pos ts q (by rw [h.tl]; exact hq)]
 rfl
theorem first_below (A : Option Addr) (n c : Nat) (l : Tu) (W : World) (h : TuA A n l W) (h0 : 0 < n) : Calls Tryz.prog 82 #[.slice A n c] W fun e W2 => e = .returned (.int .i64 (fstT l)) ∧ Below W.heap.size W W2 :=
 (first_any A n c l W h h0).mono fun e W2 hh => ⟨hh.1, by rw [hh.2]; exact Below.refl _ _⟩
set_option maxRecDepth 100000 in
set_option maxHeartbeats 16000000 in
theorem check48 {F : Nat → Prop} {x : Fm} {ts : List Hd} {f : Fl} {w : World} (h : FlM F x ts f w) (hok : FlOk f) : Calls Tryz.prog 50 #[fmA x] w fun e w' => e = .returned (.int .i64 0) ∧ Below w.heap.size w w' := by
 obtain ⟨bl, e1, hbl, hlc⟩ := h.legCells hok.n0
 have e2 := h.ln
 have HH := Lib.hid h
 have HOk := Lib.hid hok
 have HLc := Lib.hid hlc
 have hnx : (f.next = [] ∧ x.nn = 0) ∨ (0 < x.nn ∧ TuOk f.next ∧ x.nn ≤ 64) := by
  have h1 : x.nn = f.next.length := h.next.1
  rcases hok.next with e | e
  ·exact .inl ⟨e, by rw [h1, e]; rfl⟩
  ·exact .inr ⟨by rw [h1]; exact e.n0, e, by rw [h1]; exact e.n1⟩
 have HNt := Lib.hid h.next.tua
 obtain ⟨fcall, fwake, fslot, flands, fla, fln, flc, fna, fnn, fnc, fland, fnland⟩ := x
 dsimp only at e1 e2 hnx HNt
 subst e1
 obtain ⟨m, hm⟩ : ∃ m, f.legs.length = m := ⟨_, rfl⟩
 rw [hm] at e2
 subst e2
 have HM := Lib.hid hm
 have hm0 : 0 < fln := by rw [← hm]; exact hok.n0
 have hm6 : fln ≤ 6 := by rw [← hm]; exact hok.n1
 clear hlc hm h hok
 unfold fmA
 obtain ⟨V, hV⟩ : ∃ V, w.alloc (.cells #[.string fcall, .int .i64 fwake, .int .i64 fslot, .bool flands, .slice (some ⟨bl, 0, none⟩) fln flc, .slice fna fnn fnc, .int .i64 fland, .int .i64 fnland] 46) = V := ⟨_, rfl⟩
 have hbV : Below w.heap.size w V := by rw [← hV]; exact (Below.refl _ _).alloc (Nat.le_refl _) _
 have hrV : V.heap[w.heap.size]? = some (.cells #[.string fcall, .int .i64 fwake, .int .i64 fslot, .bool flands, .slice (some ⟨bl, 0, none⟩) fln flc, .slice fna fnn fnc, .int .i64 fland, .int .i64 fnland] 46 (0, 0)) := by rw [← hV]; exact heap_alloc_new _ _
 have hzV : V.heap.size = w.heap.size + 1 := by rw [← hV, size_al]
 have HC := Lib.hid (fun (W : World) (hb : Below V.heap.size V W) => (show W.cell? ⟨w.heap.size, 4, none⟩ = some (.slice (some ⟨bl, 0, none⟩) fln flc) ∧ W.cell? ⟨w.heap.size, 5, none⟩ = some (.slice fna fnn fnc) from ⟨cell_of_row W _ 4 _ 46 (0, 0) ((hb.block _ (by omega)).trans hrV), cell_of_row W _ 5 _ 46 (0, 0) ((hb.block _ (by omega)).trans hrV)⟩))
 have HBV := Lib.hid hbV
 have c4 := (HC.out V (Below.refl _ _)).1
 have em : ((fln : Int) == 0) = false := by simp; omega
 have e6 : decide (6 < (fln : Int)) = false := decide_eq_false (by omega)
 clear hbV hrV
 go_enter Tryz.func50, Tryz.ntmps50
 go_wp2_with fail
 go_loopw [19] (fun s wr => ∃ q : Nat, q ≤ fln ∧ s = .int .i64 (q : Int) ∧ Hid (Below V.heap.size V wr)) (fun s _ => fln - (intOf s).toNat)
 case atStart => exact ⟨0, by omega, rfl, Lib.hid (Below.refl _ _)⟩
 case round =>
  obtain ⟨q, hq, rfl, HBq⟩ := hrel
  obtain ⟨wp, hwp⟩ : ∃ wp : World, wp = wr := ⟨_, rfl⟩
  subst hwp
  have hzq := HBq.out.size
  have HBo := Lib.hid (HBV.out.trans (HBq.out.mono (by omega)))
  clear c4
  by_cases hqt : q < fln
  ·have m0 : (0 : Int) ≤ (q : Int) := by omega
   have m1 : (q : Int) < (fln : Int) := by omega
   have hqw : IntKind.i64.wrap ((q : Int) + 1) = (q : Int) + 1 := IntWalk.i64_in _ (by omega)
   have hqf : q < f.legs.length := by rw [HM.out]; exact hqt
   have HFq := Lib.hid (HH.out.kept (.of_below HBo.out))
   have d1 := (HBo.out.cell (p := ⟨bl, q, none⟩) hbl).trans (HLc.out q hqf)
   have HT1 := Lib.hid (HFq.out.leg q hqf).tua
   have HO1 := Lib.hid (HOk.out.legs q hqf)
   obtain ⟨⟨tA, tn, tc⟩, ht⟩ : ∃ t, ts[q]! = t := ⟨_, rfl⟩
   rw [ht] at d1 HT1
   dsimp only at d1 HT1
   have htn : 0 < tn := by rw [← HT1.out.1]; exact HO1.out.n0
   have ht64 : tn ≤ 64 := by rw [← HT1.out.1]; exact HO1.out.n1
   have HCk := Lib.hid ((TCheck_any tA tn tc f.legs[q]! wp HT1.out (by unfold maxLen; omega)).mono fun e W2 hh => (show e = .returned (.int .i64 0) ∧ Below wp.heap.size wp W2 from ⟨by rw [hh.1, HO1.out.e], hh.2⟩))
   clear ht
   by_cases hq0 : q = 0
   ·subst hq0
    go_upto_region 10 with (go_at_call 47; go_loud (refine HCk.out.mono ?_; rintro e w5 ⟨rfl, hb5⟩; have HB5 := Lib.hid hb5; clear hb5))
    refine wp_region_quiet_below (by kernel_rfl) (by kernel_rfl) ?_
    repeat (go_big_quiet_step (fail))
    refine wpQuiet_nil ?_
    intro w9 hwz
    have hb9 : Below w5.heap.size w5 w9 := by obtain ⟨⟨dq, osq⟩, rfl⟩ := hwz; exact below_regrown w5 _ _
    have HB9 := Lib.hid (HB5.out.trans (hb9.mono HB5.out.size))
    clear hwz hb9
    go_wp2_with fail
    go_roundw
    case rel => exact ⟨1, by omega, by go_num, Lib.hid (HBq.out.trans (HB9.out.mono hzq))⟩
    case measure => simp [intOf]; omega
   ·have g0 : decide (0 < (q : Int)) = true := decide_eq_true (by omega)
    have g1 : decide (0 < q) = true := decide_eq_true (by omega)
    have g2 : 0 < q := by omega
    have hqm : IntKind.i64.wrap ((q : Int) - 1) = ((q - 1 : Nat) : Int) := by rw [IntWalk.i64_in _ (by omega)]; omega
    have m2 : (0 : Int) ≤ ((q - 1 : Nat) : Int) := by omega
    have m3 : ((q - 1 : Nat) : Int) < (fln : Int) := by omega
    have HT0 := Lib.hid (HFq.out.leg (q - 1) (by omega)).tua
    have HO0 := Lib.hid (HOk.out.legs (q - 1) (by omega))
    have d0 := (HBo.out.cell (p := ⟨bl, q - 1, none⟩) hbl).trans (HLc.out (q - 1) (by omega))
    obtain ⟨⟨uA, un, uc⟩, hu⟩ : ∃ t, ts[q - 1]! = t := ⟨_, rfl⟩
    rw [hu] at d0 HT0
    dsimp only at d0 HT0
    have hun : 0 < un := by rw [← HT0.out.1]; exact HO0.out.n0
    have hup : decide (fstT f.legs[q]! ≤ fstT f.legs[q - 1]!) = false := decide_eq_false (by have := HOk.out.up q (by omega) hqf; omega)
    have HF1 := Lib.hid (fun (W : World) (hb : Below wp.heap.size wp W) => first_below tA tn tc f.legs[q]! W (HT1.out.below hb) htn)
    have HF0 := Lib.hid (fun (W : World) (hb : Below wp.heap.size wp W) => first_below uA un uc f.legs[q - 1]! W (HT0.out.below hb) hun)
    generalize fstT f.legs[q]! = z1 at hup HF1
    generalize fstT f.legs[q - 1]! = z0 at hup HF0
    have C5 := Lib.hid (fun (W : World) (hb : Below wp.heap.size wp W) => (show W.cell? ⟨w.heap.size, 4, none⟩ = some (.slice (some ⟨bl, 0, none⟩) fln flc) ∧ W.cell? ⟨bl, q - 1, none⟩ = some (.slice uA un uc) from ⟨(HC.out W (HBq.out.trans (hb.mono hzq))).1, (hb.cell (p := ⟨bl, q - 1, none⟩) (show bl < wp.heap.size by have := HBo.out.size; omega)).trans d0⟩))
    clear hu d0
    go_upto_region 10 with (go_at_call 47; go_loud (refine HCk.out.mono ?_; rintro e w5 ⟨rfl, hb5⟩; have HB5 := Lib.hid hb5; clear hb5))
    have r4 := cell_regrown (C5.out w5 HB5.out).1
    have r0 := cell_regrown (C5.out w5 HB5.out).2
    refine wp_region_quiet_below (by kernel_rfl) (by kernel_rfl) ?_
    repeat (go_big_quiet_step ((go_at_call 82; first | exact (HF1.out _ (HB5.out.trans ((below_regrown w5 _ _).mono HB5.out.size))).regrown_of | exact (HF0.out _ (HB5.out.trans ((below_regrown w5 _ _).mono HB5.out.size))).regrown_of)))
    refine wpQuiet_nil ?_
    intro w9 hwz
    have hb9 : Below w5.heap.size w5 w9 := by obtain ⟨⟨dq, osq⟩, rfl⟩ := hwz; exact below_regrown w5 _ _
    have HB9 := Lib.hid (HB5.out.trans (hb9.mono HB5.out.size))
    clear hwz hb9 r4 r0
    go_wp2_with fail
    go_roundw
    case rel => exact ⟨q + 1, by omega, by go_num, Lib.hid (HBq.out.trans (HB9.out.mono hzq))⟩
    case measure => simp [intOf]; omega
  ·obtain rfl : fln = q := by omega
   have c5 := (HC.out wp HBq.out).2
   rcases hnx with ⟨hnx, hn0⟩ | ⟨hn0, hnx, hn64⟩
   ·subst hn0
    clear hnx
    go_wp2_with fail
    go_ret
    exact ⟨rfl, HBo.out⟩
   ·have g0 : decide (0 < (fnn : Int)) = true := decide_eq_true (by omega)
    have HCk := Lib.hid ((TCheck_any fna fnn fnc f.next wp (HNt.out.below HBo.out) (by unfold maxLen; omega)).mono fun e W2 hh => (show e = .returned (.int .i64 0) ∧ Below wp.heap.size wp W2 from ⟨by rw [hh.1, hnx.e], hh.2⟩))
    clear hnx
    go_wp2_with (go_at_call 47; go_loud (refine HCk.out.mono ?_; rintro e w5 ⟨rfl, hb5⟩; have HB5 := Lib.hid hb5; clear hb5))
    go_ret
    exact ⟨rfl, HBo.out.trans (HB5.out.mono HBo.out.size)⟩
def PlcP (l : List Nd) (w : World) (e : Ending) (w' : World) : Prop := ∃ A c, e = .returned (.tuple #[.slice A l.length c, .int .i64 0]) ∧ w'.ownsRow w.heap.size 52 6 (.slice A l.length c) l.length (rowsV ndV l) ∧ Below w.heap.size w w'
set_option maxRecDepth 100000 in
set_option maxHeartbeats 16000000 in
theorem Places24 {F : Nat → Prop} {x : Fm} {ts : List Hd} {f : Fl} {w : World} (h : FlM F x ts f w) (hok : FlOk f) (t : Int) : Calls Tryz.prog 16 #[fmA x, .int .i64 t] w (PlcP (placesP f t) w) := by
 have HCh := Lib.hid (fun (W : World) (hb : Below w.heap.size w W) => check48 (h.kept (.of_below hb)) hok)
 have HPl := Lib.hid (fun (W : World) (hb : Below w.heap.size w W) => (by
  have hA := (h.kept (.of_below hb)).fla
  exact places_any x f t W hA.legs hA.next hok.legs hok.n1 (hA.nn hok)))
 obtain ⟨l, hl⟩ : ∃ l, placesP f t = l := ⟨_, rfl⟩
 rw [hl] at HPl ⊢
 unfold NdsP at HPl
 clear h hok hl
 obtain ⟨fcall, fwake, fslot, flands, fla, fln, flc, fna, fnn, fnc, fland, fnland⟩ := x
 unfold fmA at HCh HPl ⊢
 dsimp only at HCh HPl ⊢
 obtain ⟨V, hV⟩ : ∃ V, w.alloc (.cells #[.string fcall, .int .i64 fwake, .int .i64 fslot, .bool flands, .slice fla fln flc, .slice fna fnn fnc, .int .i64 fland, .int .i64 fnland] 46) = V := ⟨_, rfl⟩
 have hbV : Below w.heap.size w V := by rw [← hV]; exact (Below.refl _ _).alloc (Nat.le_refl _) _
 have hrV : V.heap[w.heap.size]? = some (.cells #[.string fcall, .int .i64 fwake, .int .i64 fslot, .bool flands, .slice fla fln flc, .slice fna fnn fnc, .int .i64 fland, .int .i64 fnland] 46 (0, 0)) := by rw [← hV]; exact heap_alloc_new _ _
 have hzV : V.heap.size = w.heap.size + 1 := by rw [← hV, size_al]
 have HGV := Lib.hid hrV
 have HBV := Lib.hid hbV
 clear hbV hrV
 go_enter Tryz.func16, Tryz.ntmps16
 go_upto_region 4 with (first
  | (first | (refine wpList_load_row rfl 46 _ rfl w.heap.size rfl 46 _ (0, 0) _ HGV.out Tryz.underlying46 rfl (by kernel_rfl) ?_) | (refine wpList_load_row_w 46 _ rfl w.heap.size rfl rfl 46 _ (0, 0) _ HGV.out Tryz.underlying46 rfl (by kernel_rfl) ?_))
  | (go_at_call 50; go_loud (refine (HCh.out V HBV.out).mono ?_; rintro e w1 ⟨rfl, hb1⟩; have HG1 := Lib.hid ((hb1.block w.heap.size (by omega)).trans HGV.out); have HB1 := Lib.hid (HBV.out.trans (hb1.mono HBV.out.size)); clear hb1)))
 go_wp2_with (first
  | (first | (refine wpList_load_row rfl 46 _ rfl w.heap.size rfl 46 _ (0, 0) _ HG1.out Tryz.underlying46 rfl (by kernel_rfl) ?_) | (refine wpList_load_row_w 46 _ rfl w.heap.size rfl rfl 46 _ (0, 0) _ HG1.out Tryz.underlying46 rfl (by kernel_rfl) ?_))
  | (go_at_call 51; go_loud (refine (HPl.out w1 HB1.out).mono ?_; rintro e w2 ⟨A2, c2, rfl, ho2, hb2⟩; have HO2 := Lib.hid ho2; have HB2 := Lib.hid hb2; clear ho2 hb2)))
 go_ret2
 exact ⟨A2, c2, rfl, own_mono HO2.out HB1.out.size, HB1.out.trans (HB2.out.mono HB1.out.size)⟩
end Go.Proofs.YtaebebpldkciiaaGreatDoor
