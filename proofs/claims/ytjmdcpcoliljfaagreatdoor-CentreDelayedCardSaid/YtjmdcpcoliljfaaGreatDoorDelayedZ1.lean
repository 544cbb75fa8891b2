/- Texts OPt, U32, U26, U27, U28. -/
import Derived.Test.YtjmdcpcoliljfaaGreatDoorG20
import Derived.Test.YtjmdcpcoliljfaaGreatDoorG19
import Derived.Test.YtjmdcpcoliljfaaGreatDoorG04
/- An argument that is a point. -/
namespace Go.Proofs.YtjmdcpcoliljfaaGreatDoor
open Go.RowKit Go.ChangeShapes Go.WideShapes Go.ChangeAt Go.ChangeMaps
variable {H : Type} {enc : TypeId × Value → H} {w : World}

set_option maxRecDepth 100000 in
theorem open_p {base : Nat} {r : Reach} {v : Value} {d : DataW H} {p : List MemPlace} (hv : Value.okWide Tryz.prog w r base 43 v) (h : DataW.Trod enc Tryz.prog w 0 (fun _ => true) true 43 v d p) : ∃ a b : Int, v = .agg #[.int .i64 a, .int .i64 b] := by
  obtain ⟨G, rfl, hsz⟩ : ∃ cs, v = .agg cs ∧ cs.size = Tryz.prog.cellsOf 43 := by
    simp only [Value.okWide, Tryz.underlying43] at hv
    obtain ⟨cs, h1, h2, _⟩ := hv
    exact ⟨cs, h1, h2⟩
  rw [cells43] at hsz
  obtain ⟨fuel, hf⟩ := h
  obtain ⟨G⟩ := G
  match G, hsz with
  | [c, e], _ =>
    obtain ⟨a, b, rfl, rfl⟩ := open_pt (c := c) (d := e) hf
    exact ⟨a, b, rfl⟩
end Go.Proofs.YtjmdcpcoliljfaaGreatDoor

/- Equal tubes, flights, entries: the program's comparisons answer true. -/
namespace Go.Proofs.YtjmdcpcoliljfaaGreatDoor
open Go.RowKit

set_option maxRecDepth 100000 in
theorem eqP43 (d : Nat) (x y : Int) (w : World) : (Op.equalIn (d + 2) 43 (.agg #[.int .i64 x, .int .i64 y]) (.agg #[.int .i64 x, .int .i64 y])).run Tryz.prog w = .ok true w := by
  have u3 := Tryz.underlying3
  have a3 := Tryz.isAgg3
  have z3 := Tryz.sizeOf3
  have hS : Tryz.prog.underlying 43 = some (.struct (Tryz.prog.fieldsOf 43)) := by kernel_rfl
  have hp : Tryz.prog.stoodInHeld 43 = false := by kernel_rfl
  rw [show d + 2 = (d + 1) + 1 from rfl, run_equalIn_agg w (d + 1) 43 _ _ hS hp]
  simp only [Program.fieldsOf, Tryz.underlying43]
  go_simp
set_option maxRecDepth 100000 in
theorem eqN45 (d : Nat) (t x y h : Int) (w : World) : (Op.equalIn (d + 3) 45 (.agg #[.int .i64 t, .int .i64 x, .int .i64 y, .int .i64 h]) (.agg #[.int .i64 t, .int .i64 x, .int .i64 y, .int .i64 h])).run Tryz.prog w = .ok true w := by
  have u3 := Tryz.underlying3
  have a3 := Tryz.isAgg3
  have z3 := Tryz.sizeOf3
  have hS : Tryz.prog.underlying 45 = some (.struct (Tryz.prog.fieldsOf 45)) := by kernel_rfl
  have hp : Tryz.prog.stoodInHeld 45 = false := by kernel_rfl
  have e43 := fun W => eqP43 d x y W
  rw [show d + 3 = (d + 2) + 1 from rfl, run_equalIn_agg w (d + 2) 45 _ _ hS hp]
  simp only [Program.fieldsOf, Tryz.underlying45]
  go_simp
set_option maxRecDepth 100000 in
theorem eqN47 (q : Nd) (w : World) : (Op.equalIn 10000 47 (.agg #[.int .i64 q.t, .int .i64 q.x, .int .i64 q.y, .int .i64 q.h, .int .i64 q.r, .int .i64 q.b]) (.agg #[.int .i64 q.t, .int .i64 q.x, .int .i64 q.y, .int .i64 q.h, .int .i64 q.r, .int .i64 q.b])).run Tryz.prog w = .ok true w := by
  have u3 := Tryz.underlying3
  have a3 := Tryz.isAgg3
  have z3 := Tryz.sizeOf3
  have hS : Tryz.prog.underlying 47 = some (.struct (Tryz.prog.fieldsOf 47)) := by kernel_rfl
  have hp : Tryz.prog.stoodInHeld 47 = false := by kernel_rfl
  have e45 := fun W => eqN45 9996 q.t q.x q.y q.h W
  rw [show (10000 : Nat) = 9999 + 1 from rfl, run_equalIn_agg w 9999 47 _ _ hS hp]
  simp only [Program.fieldsOf, Tryz.underlying47]
  go_simp
set_option maxRecDepth 100000 in
theorem eqO57 (x y z : ByteArray) (w : World) : (Op.equalIn 10000 57 (.agg #[.string x, .string y, .string z]) (.agg #[.string x, .string y, .string z])).run Tryz.prog w = .ok true w := by
  have u9 := Tryz.underlying9
  have a9 := Tryz.isAgg9
  have z9 := Tryz.sizeOf9
  have hS : Tryz.prog.underlying 57 = some (.struct (Tryz.prog.fieldsOf 57)) := by kernel_rfl
  have hp : Tryz.prog.stoodInHeld 57 = false := by kernel_rfl
  rw [show (10000 : Nat) = 9999 + 1 from rfl, run_equalIn_agg w 9999 57 _ _ hS hp]
  simp only [Program.fieldsOf, Tryz.underlying57]
  go_simp

set_option maxRecDepth 100000 in
set_option maxHeartbeats 8000000 in
theorem eq54_any (A B : Option Addr) (n c d : Nat) (l : Tu) (w : World) (hA : TuA A n l w) (hB : TuA B n l w) (hn : n ≤ 100000) :
    Calls Tryz.prog 54 #[.slice A n c, .slice B n d] w fun e w' => e = .returned (.bool true) ∧ Below w.heap.size w w' := by
  have HV := Lib.hid hA.2
  have HU := Lib.hid hB.2
  have hm0 : (0 : Int) ≤ (n : Int) := by omega
  clear hA hB
  go_enter Tryz.func54, Tryz.ntmps54
  go_wp2
  go_loopw [13] (fun i wr => ∃ j : Nat, j ≤ n ∧ i = .int .i64 (j : Int) ∧ Hid (Below w.heap.size w wr)) (fun i _ => n - (intOf i).toNat)
  case atStart => exact ⟨0, by omega, rfl, Lib.hid (Below.refl _ _)⟩
  case round =>
    obtain ⟨j, hj, rfl, HB⟩ := hrel
    obtain ⟨wo, hwo⟩ : ∃ wo : World, wo = wr := ⟨_, rfl⟩
    subst hwo
    by_cases hlt : j < n
    · obtain ⟨b1, o1, rfl, hb1, hr1⟩ := (HV.out.below HB.out) (by omega)
      obtain ⟨b2, o2, rfl, hb2, hr2⟩ := (HU.out.below HB.out) (by omega)
      have h1 : ∀ i v, (ndV l[j]!)[i]? = some v → wo.cell? ⟨b1, o1 + j * 6 + i, none⟩ = some v := hr1 j hlt
      have h2 : ∀ i v, (ndV l[j]!)[i]? = some v → wo.cell? ⟨b2, o2 + j * 6 + i, none⟩ = some v := hr2 j hlt
      generalize l[j]! = q at h1 h2
      have hbe := fun W => eqN47 q W
      have d0 := cell_regrown (h1 0 _ rfl)
      have d1 := cell_regrown (h1 1 _ rfl)
      have d2 := cell_regrown (h1 2 _ rfl)
      have d3 := cell_regrown (h1 3 _ rfl)
      have d4 := cell_regrown (h1 4 _ rfl)
      have d5 := cell_regrown (h1 5 _ rfl)
      have f0 := cell_regrown (h2 0 _ rfl)
      have f1 := cell_regrown (h2 1 _ rfl)
      have f2 := cell_regrown (h2 2 _ rfl)
      have f3 := cell_regrown (h2 3 _ rfl)
      have f4 := cell_regrown (h2 4 _ rfl)
      have f5 := cell_regrown (h2 5 _ rfl)
      simp only [Nat.add_zero] at d0 f0
      have l1 : (j : Int) < (n : Int) := by omega
      have l0 : (0 : Int) ≤ (j : Int) := by omega
      have hwj : IntKind.i64.wrap ((j : Int) + 1) = (j : Int) + 1 := IntWalk.i64_in _ (by omega)
      clear h1 h2 hr1 hr2
      go_upto_region 6 with (fail)
      refine wp_region_quiet_below (by kernel_rfl) (by kernel_rfl) ?_
      repeat (go_big_quiet_step (fail))
      refine wpQuiet_nil ?_
      intro w9 hwz
      have hb9 : Below wo.heap.size wo w9 := by obtain ⟨⟨dq, osq⟩, rfl⟩ := hwz; exact below_regrown wo _ _
      clear hwz
      go_wp2_with fail
      go_roundw
      case rel => exact ⟨j + 1, by omega, by go_num, Lib.hid (HB.out.trans (hb9.mono HB.out.size))⟩
      case measure => simp [intOf]; omega
    · obtain rfl : n = j := by omega
      go_wp2
      go_ret
      exact ⟨rfl, HB.out⟩
set_option maxRecDepth 100000 in
theorem eq56_any (A B : Option Addr) (n c d : Nat) (l : Tu) (w : World) (hA : TuA A n l w) (hB : TuA B n l w) (hn : n ≤ 100000) :
    Calls Tryz.prog 56 #[.slice A n c, .slice B n d] w fun e w' => e = .returned (.bool true) ∧ Below w.heap.size w w' := by
  have HE := Lib.hid (eq54_any A B n c d l w hA hB hn)
  clear hA hB
  go_enter Tryz.func56, Tryz.ntmps56
  go_wp2_with (go_at_call 54; go_loud (refine HE.out.mono ?_; rintro e w1 ⟨rfl, hb1⟩))
  go_ret
  exact ⟨rfl, hb1⟩
end Go.Proofs.YtjmdcpcoliljfaaGreatDoor

/- The function given to run in CentreLands. -/
namespace Go.Proofs.YtjmdcpcoliljfaaGreatDoor
open Go.RowKit

def suL (S : Su) : Array Value := #[.int .i64 S.lat, .int .i64 S.vert, .int .i64 (S.g 0), .int .i64 (S.g 1), .int .i64 (S.g 2), .int .i64 (S.g 3), .int .i64 (S.g 4), .int .i64 (S.g 5), .int .i64 (S.g 6), .int .i64 (S.g 7), .int .i64 (S.g 8), .int .i64 (S.g 9), .int .i64 (S.g 10), .int .i64 (S.g 11), .int .i64 (S.g 12), .int .i64 (S.g 13), .int .i64 (S.g 14), .int .i64 (S.g 15)]
/-- A setup in a block of its own. -/
def SuAt (S : Su) (b : Nat) (w : World) : Prop := w.heap[b]? = some (.cells (suL S) 27 (0, 0))
theorem SuAt.gap {S : Su} {b : Nat} {w : World} (h : SuAt S b w) {i j : Nat} (hi : i < 4) (hj : j < 4) : w.cell? ⟨b, 2 + i * 4 + j, none⟩ = some (.int .i64 (S.g (4 * i + j))) := by
  rw [cell_of_row w b _ _ _ _ h]
  match i, j, hi, hj with
  | 0, 0, _, _ => rfl
  | 0, 1, _, _ => rfl
  | 0, 2, _, _ => rfl
  | 0, 3, _, _ => rfl
  | 1, 0, _, _ => rfl
  | 1, 1, _, _ => rfl
  | 1, 2, _, _ => rfl
  | 1, 3, _, _ => rfl
  | 2, 0, _, _ => rfl
  | 2, 1, _, _ => rfl
  | 2, 2, _, _ => rfl
  | 2, 3, _, _ => rfl
  | 3, 0, _, _ => rfl
  | 3, 1, _, _ => rfl
  | 3, 2, _, _ => rfl
  | 3, 3, _, _ => rfl
  | i + 4, j, h, _ => exact absurd h (by omega)
  | i, j + 4, _, h => exact absurd h (by omega)
/-- The last node's time in a tube. -/
theorem TuA.lst {A : Option Addr} {n : Nat} {l : Tu} {w : World} (h : TuA A n l w) (h0 : 0 < n) : ∃ b off, A = some ⟨b, off, none⟩ ∧ b < w.heap.size ∧ w.cell? ⟨b, off + (n - 1) * 6, none⟩ = some (.int .i64 (lstT l)) := by
  obtain ⟨b, off, hA, hb, hr⟩ := h.2 h0
  refine ⟨b, off, hA, hb, ?_⟩
  have := hr (n - 1) (by omega) 0 _ rfl
  rw [Nat.add_zero] at this
  rw [this]
  unfold lstT
  rw [h.1]
theorem CpX.cells {F : Nat → Prop} {v : Hd} {xs : List Fm} {ts : List (List Hd)} {fl : List Fl} {w : World} (h : CpX F v xs ts fl w) {i : Nat} (hi : i < fl.length) : ∃ b, v.A = some ⟨b, 0, none⟩ ∧ b < w.heap.size ∧ ∀ q, q < 8 → w.cell? ⟨b, i * 8 + q, none⟩ = (fmV xs[i]!)[q]? := by
  obtain ⟨b, cap, hv, _, hb⟩ := h.own.1.form (by omega)
  have hv' : Value.slice v.A v.n v.c = .slice (some ⟨b, 0, none⟩) fl.length cap := hv
  have hA : v.A = some ⟨b, 0, none⟩ := by injection hv'
  have ho := h.own.1
  rw [hv] at ho
  refine ⟨b, hA, hb, fun q hq => ?_⟩
  rw [ho.cellAt (i * 8 + q) (by omega), rowsV_at fmV_len xs i (by rw [h.xn]; exact hi) q hq, getElem!_pos xs i (by rw [h.xn]; exact hi)]
theorem takeFl {A : Option Addr} {c : Nat} (n q : Nat) (hq : q ≤ n) (hn : n ≤ c) (hc : c ≤ maxLen) (hnil : A = none → n = 0 ∧ c = 0) : ∃ A2 c2, (∀ W, (Instr.slice 37 (.slice A n c) none (some (.int .i64 (q : Int))) none).run Tryz.prog W = .ok (.slice A2 q c2) W) ∧ (0 < q → A2 = A) := by
  unfold maxLen at hc
  have h0 : (0 : Int) ≤ (q : Int) := by omega
  have h1 : (q : Int) ≤ (n : Int) := by omega
  have h2 : (n : Int) ≤ (c : Int) := by omega
  have h3 : (q : Int) ≤ (c : Int) := by omega
  have c23 : Tryz.prog.cellsOf 41 = 8 := by kernel_rfl
  cases A with
  | none =>
    obtain ⟨rfl, rfl⟩ := hnil rfl
    obtain rfl : q = 0 := by omega
    refine ⟨none, 0, fun W => ?_, fun h => absurd h (by omega)⟩
    go_simp
  | some a =>
    refine ⟨if c = 0 then some a else some (a.add (0 * 8)), c, fun W => ?_, fun hq0 => ?_⟩
    · go_simp
    · rw [if_neg (by omega)]; simp [Addr.add]
theorem CpX.capN {F : Nat → Prop} {v : Hd} {xs : List Fm} {ts : List (List Hd)} {fl : List Fl} {w : World} (h : CpX F v xs ts fl w) : v.n ≤ v.c ∧ v.c ≤ maxLen ∧ (v.A = none → v.n = 0 ∧ v.c = 0) := by
  have ho := h.own.1
  unfold Hd.v at ho
  rw [← h.n] at ho
  have := own_cap ho
  exact ⟨this.1, this.2, own_nil ho⟩

/-- Two flights of one call are one. -/
theorem calls_inj {c : Ce} (h : CeOk c) {i j : Nat} (hi : i < c.fl.length) (hj : j < c.fl.length) (he : (c.fl[i]!).call = (c.fl[j]!).call) : i = j := by
  have hlen := h.len
  have key : ∀ k, k < c.fl.length → (c.fl[k]!).call = (c.ow[k]!).call := fun k hk => by
    have h2 := congrArg (fun l => l[k]?) h.calls
    simp only [List.getElem?_map] at h2
    rw [List.getElem?_eq_getElem hk, List.getElem?_eq_getElem (by omega : k < c.ow.length)] at h2
    simp only [Option.map_some, Option.some.injEq] at h2
    rw [getElem!_pos c.fl k hk, getElem!_pos c.ow k (by omega), h2]
  rw [key i hi, key j hj] at he
  have hpw := h.ow.pw
  rcases Nat.lt_trichotomy i j with h1 | h1 | h1
  · have h2 := List.pairwise_iff_getElem.1 hpw i j (by omega) (by omega) h1
    rw [getElem!_pos c.ow i (by omega), getElem!_pos c.ow j (by omega)] at he
    unfold ltO at h2
    rw [he] at h2
    exact absurd h2 (by rw [lsS_irr]; decide)
  · exact h1
  · have h2 := List.pairwise_iff_getElem.1 hpw j i (by omega) (by omega) h1
    rw [getElem!_pos c.ow i (by omega), getElem!_pos c.ow j (by omega)] at he
    unfold ltO at h2
    rw [he] at h2
    exact absurd h2 (by rw [lsS_irr]; decide)
set_option maxRecDepth 100000 in
set_option maxHeartbeats 32000000 in
theorem cl13_any {F : Nat → Prop} {g B : Nat} {S : Su} {c : Ce} {w : World} (h : CeAt F g S c w) (hok : CeOk c) (hS : SuOk S) (hB : SuAt S B w) (hp : Pw LandOne (LandTwo S) c.fl) (x : Inp) (A : Option Addr) (n cA : Nat) (k : Int) :
    Calls Tryz.prog 13 #[.pointer (some ⟨g, 0, none⟩), inpV x A n cA, .int .i64 k, .pointer (some ⟨B, 0, none⟩)] w fun e w' => e = .returned (.bool true) ∧ Below w.heap.size w w' := by
  obtain ⟨y, hM⟩ := h
  have HF := Lib.hid (fun (W : World) (hb : Below w.heap.size w W) => Flights_any (hM.below hb) hok)
  have HB := Lib.hid hB
  have hBl : B < w.heap.size := (Array.getElem?_eq_some_iff.1 hB).1
  have HOk := Lib.hid hok
  have HP := Lib.hid hp
  have HS := Lib.hid hS
  have h24 : c.fl.length ≤ 24 := by have := hok.ow.n; have := hok.len; omega
  clear hM hok hB hp hS
  unfold inpV
  go_enter Tryz.func13, Tryz.ntmps13
  go_wp2_with (go_at_call 14; go_loud (refine (HF.out _ ((Below.refl _ _).alloc (Nat.le_refl _) _)).mono ?_; rintro e w1 ⟨⟨vA, vn, vc⟩, rfl, ⟨xs, ts, hX⟩, hb1⟩; have HX := Lib.hid hX; have HB1 := Lib.hid (((Below.refl _ w).alloc (Nat.le_refl _) _).trans (hb1.mono (by simp))); clear hX hb1; have HVn : Hid (vn = c.fl.length) := Lib.hid HX.out.n))
  go_loopw [18] (fun s wr => ∃ i : Nat, i ≤ vn ∧ s = .int .i64 (i : Int) ∧ Hid (Below w1.heap.size w1 wr)) (fun s _ => vn - (intOf s).toNat)
  case atStart => exact ⟨0, by omega, rfl, Lib.hid (Below.refl _ _)⟩
  case round =>
    obtain ⟨i, hi, rfl, HBi⟩ := hrel
    obtain ⟨wo, hwo⟩ : ∃ wo : World, wo = wr := ⟨_, rfl⟩
    subst hwo
    have hzr := HBi.out.size
    by_cases hlt : i < vn
    · have l0 : (0 : Int) ≤ (i : Int) := by omega
      have l1 : (i : Int) < (vn : Int) := by omega
      have hiw : IntKind.i64.wrap ((i : Int) + 1) = (i : Int) + 1 := IntWalk.i64_in _ (by have := HVn.out; omega)
      have hic : i < c.fl.length := by rw [← HVn.out]; exact hlt
      have hv24 : vn ≤ 24 := by rw [HVn.out]; exact h24
      have HXi := Lib.hid (HX.out.kept (.of_below HBi.out))
      obtain ⟨b, hA, hb, hcell⟩ := HXi.out.cells hic
      have hA : vA = some ⟨b, 0, none⟩ := hA
      subst hA
      have HFl := Lib.hid (HXi.out.fl i hic)
      have hfm : c.fl[i]! ∈ c.fl := by rw [getElem!_pos c.fl i hic]; exact List.getElem_mem hic
      have HFok := Lib.hid (HOk.out.fl _ hfm)
      have HLo := Lib.hid (HP.out.o _ hfm)
      have HFm := Lib.hid hfm
      have HCell := Lib.hid hcell
      have HNi := Lib.hid hic
      obtain ⟨f, hf⟩ : ∃ f, c.fl[i]! = f := ⟨_, rfl⟩
      have HFi := Lib.hid hf
      rw [hf] at HFl HFok HLo HFm
      obtain ⟨x, hx⟩ : ∃ x, xs[i]! = x := ⟨_, rfl⟩
      rw [hx] at HFl HCell
      obtain ⟨bl, lm, hd, e1, e2, lm5, hbl, k1, hT, _⟩ := HFl.out.lastLeg HFok.out
      have hdn : 0 < hd.n := by rw [← hT.1]; exact (HFok.out.legs _ (by have := HFok.out.n0; omega)).n0
      have hd64 : hd.n ≤ 64 := by rw [← hT.1]; exact (HFok.out.legs _ (by have := HFok.out.n0; omega)).n1
      obtain ⟨b3, off3, e3, hb3, k3⟩ := hT.lst hdn
      obtain ⟨hdA, hdN, hdC⟩ := hd
      dsimp only at k1 hdn hd64 e3 k3
      subst e3
      have q0 := HCell.out 0 (by decide)
      have q1 := HCell.out 1 (by decide)
      have q2 := HCell.out 2 (by decide)
      have q3 := HCell.out 3 (by decide)
      have q4 := HCell.out 4 (by decide)
      have q5 := HCell.out 5 (by decide)
      have q6 := HCell.out 6 (by decide)
      have q7 := HCell.out 7 (by decide)
      simp only [fmV, List.getElem?_cons_succ, List.getElem?_cons_zero, Nat.add_zero] at q0 q1 q2 q3 q4 q5 q6 q7
      have hlands := HFl.out.lands
      have hland := HFl.out.land
      have hnland := HFl.out.nland
      have hslot := HFl.out.slot
      have hwake := HFl.out.wake
      obtain ⟨fcall, fwake, fslot, flands, fla, fln, flc, fna, fnn, fnc, fland, fnland⟩ := x
      dsimp only at q0 q1 q2 q3 q4 q5 q6 q7 e1 e2 hlands hland hnland hslot hwake
      subst e1
      subst e2
      have hle : lstT f.legs[f.legs.length - 1]! = lstT (lastL f) := rfl
      rw [hle] at k3
      have hno : flands = false → fland = 0 ∧ fnland = 0 := fun h => by rw [hland, hnland]; exact HLo.out.no (by rw [← hlands]; exact h)
      have hye : flands = true → lstT (lastL f) ≤ fland ∧ fland ≤ fslot ∧ fnland ≤ fslot := fun h => by
        rw [hland, hnland, hslot]
        have h' : f.lands = true := by rw [← hlands]; exact h
        exact ⟨(HLo.out.l1 h').1, (HLo.out.l1 h').2, HLo.out.l2 h'⟩
      generalize lstT (lastL f) = lt at k3 hye
      have HLands := Lib.hid hlands
      have HLand := Lib.hid hland
      have HWake := Lib.hid hwake
      have HNo := Lib.hid hno
      have HYe := Lib.hid hye
      clear hlands hland hwake hno hye hslot hnland hT hcell hle hf hfm
      have ed : ((hdN : Int) == 0) = false := by simp; omega
      have el : (((lm + 1 : Nat) : Int) == 0) = false := by simp; omega
      have w1m : IntKind.i64.wrap (((lm + 1 : Nat) : Int) - 1) = (lm : Int) := by rw [IntWalk.i64_in _ (by omega)]; omega
      have w2m : IntKind.i64.wrap ((hdN : Int) - 1) = ((hdN - 1 : Nat) : Int) := by rw [IntWalk.i64_in _ (by omega)]; omega
      have n3 : ((hdN - 1 : Nat) : Int) < (hdN : Int) := by omega
      have n4 : (0 : Int) ≤ ((hdN - 1 : Nat) : Int) := by omega
      have n5 : (lm : Int) < ((lm + 1 : Nat) : Int) := by omega
      have n6 : (0 : Int) ≤ (lm : Int) := by omega
      have hcap := HXi.out.capN
      dsimp only at hcap
      cases flands with
      | false =>
        obtain ⟨rfl, rfl⟩ := HNo.out rfl
        go_upto_region 8 with (fail)
        obtain ⟨w8, hw8⟩ : ∃ W, wo.alloc (.cells #[.string fcall, .int .i64 fwake, .int .i64 fslot, .bool false, .slice (some ⟨bl, 0, none⟩) (lm + 1) flc, .slice fna fnn fnc, .int .i64 0, .int .i64 0] 41) = W := ⟨_, rfl⟩
        rw [hw8]
        have hb8 : Below wo.heap.size wo w8 := by rw [← hw8]; exact (Below.refl _ _).alloc (Nat.le_refl _) _
        have hr8 : w8.heap[wo.heap.size]? = some (.cells #[.string fcall, .int .i64 fwake, .int .i64 fslot, .bool false, .slice (some ⟨bl, 0, none⟩) (lm + 1) flc, .slice fna fnn fnc, .int .i64 0, .int .i64 0] 41 (0, 0)) := by rw [← hw8]; exact heap_alloc_new _ _
        have hz8 : w8.heap.size = wo.heap.size + 1 := by rw [← hw8, size_al]
        clear hw8
        have HB8 := Lib.hid hb8
        have HR8 := Lib.hid hr8
        have r2 := cell_regrown (show w8.cell? ⟨wo.heap.size, 2, none⟩ = some (.int .i64 fslot) from cell_of_row w8 _ 2 _ 41 (0, 0) hr8)
        have r3 := cell_regrown (show w8.cell? ⟨wo.heap.size, 3, none⟩ = some (.bool false) from cell_of_row w8 _ 3 _ 41 (0, 0) hr8)
        have r6 := cell_regrown (show w8.cell? ⟨wo.heap.size, 6, none⟩ = some (.int .i64 0) from cell_of_row w8 _ 6 _ 41 (0, 0) hr8)
        have r7 := cell_regrown (show w8.cell? ⟨wo.heap.size, 7, none⟩ = some (.int .i64 0) from cell_of_row w8 _ 7 _ 41 (0, 0) hr8)
        have rk := cell_regrown ((hb8.cell (p := ⟨b3, off3 + (hdN - 1) * 6, none⟩) hb3).trans k3)
        refine wp_region_quiet_below (by kernel_rfl) (by kernel_rfl) ?_
        repeat (go_big_quiet_step (fail))
        refine wpQuiet_nil ?_
        intro w9 hwz
        have hb9 : Below w8.heap.size w8 w9 := by obtain ⟨⟨dq, osq⟩, rfl⟩ := hwz; exact below_regrown w8 _ _
        clear hwz r2 r3 r6 r7 rk q0 q1 q2 q3 q4 q5 q6 q7 k1 k3
        have hr9 := (hb9.block wo.heap.size (by omega)).trans hr8
        have HB9 := Lib.hid (hb8.trans (hb9.mono (by omega)))
        have HR9 := Lib.hid hr9
        clear hb8 hb9 hr8 hr9
        go_upto_region 10 with (fail)
        obtain ⟨A2, c2, hsl, hA2⟩ := takeFl (A := some ⟨b, 0, none⟩) (c := vc) vn i (by omega) hcap.1 hcap.2.1 hcap.2.2
        go_wp2_with fail
        go_loopw [88] (fun s wr => ∃ j : Nat, j ≤ i ∧ s = .int .i64 (j : Int) ∧ Hid (Below w9.heap.size w9 wr)) (fun s _ => i - (intOf s).toNat)
        case atStart => exact ⟨0, by omega, rfl, Lib.hid (Below.refl _ _)⟩
        case round =>
          obtain ⟨j, hj, rfl, HBj⟩ := hrel
          obtain ⟨wp, hwp⟩ : ∃ wp : World, wp = wr := ⟨_, rfl⟩
          subst hwp
          have hzj := HBj.out.size
          have hz9 := HB9.out.size
          have HBo := Lib.hid (HB9.out.trans (HBj.out.mono hz9))
          by_cases hjt : j < i
          · have m0 : (0 : Int) ≤ (j : Int) := by omega
            have m1 : (j : Int) < (i : Int) := by omega
            have hjw : IntKind.i64.wrap ((j : Int) + 1) = (j : Int) + 1 := IntWalk.i64_in _ (by omega)
            have hjc : j < c.fl.length := by rw [← HVn.out]; omega
            obtain rfl := hA2 (by omega)
            have HXj := Lib.hid (HXi.out.kept (.of_below HBo.out))
            obtain ⟨b', hA', hb', hcell'⟩ := HXj.out.cells hjc
            obtain rfl : b = b' := by injection hA' with hA'; injection hA'
            have HFl' := Lib.hid (HXj.out.fl j hjc)
            have hfm' : c.fl[j]! ∈ c.fl := by rw [getElem!_pos c.fl j hjc]; exact List.getElem_mem hjc
            have HFok' := Lib.hid (HOk.out.fl _ hfm')
            have HFm' := Lib.hid hfm'
            have HFj : Hid (∃ f', c.fl[j]! = f') := Lib.hid ⟨_, rfl⟩
            obtain ⟨f', hf'⟩ := HFj.out
            have HFe' := Lib.hid hf'
            rw [hf'] at HFl' HFok' HFm'
            obtain ⟨x', hx'⟩ : ∃ x, xs[j]! = x := ⟨_, rfl⟩
            rw [hx'] at HFl' hcell'
            have p0 := hcell' 0 (by decide)
            have p1 := hcell' 1 (by decide)
            have p2 := hcell' 2 (by decide)
            have p3 := hcell' 3 (by decide)
            have p4 := hcell' 4 (by decide)
            have p5 := hcell' 5 (by decide)
            have p6 := hcell' 6 (by decide)
            have p7 := hcell' 7 (by decide)
            simp only [fmV, List.getElem?_cons_succ, List.getElem?_cons_zero, Nat.add_zero] at p0 p1 p2 p3 p4 p5 p6 p7
            have HGl := Lib.hid HFl'.out.lands
            have HGd := Lib.hid HFl'.out.land
            have HGw := Lib.hid HFl'.out.wake
            obtain ⟨gcall, gwake, gslot, glands, gla, gln, glc, gna, gnn, gnc, gland, gnland⟩ := x'
            dsimp only at p0 p1 p2 p3 p4 p5 p6 p7 HGl HGd HGw
            clear hcell' hf' hx' hfm' hA'
            go_upto_region 13 with (fail)
            obtain ⟨wq, hwq⟩ : ∃ W, wp.alloc (.cells #[.string gcall, .int .i64 gwake, .int .i64 gslot, .bool glands, .slice gla gln glc, .slice gna gnn gnc, .int .i64 gland, .int .i64 gnland] 41) = W := ⟨_, rfl⟩
            rw [hwq]
            have hbq : Below wp.heap.size wp wq := by rw [← hwq]; exact (Below.refl _ _).alloc (Nat.le_refl _) _
            have hrq : wq.heap[wp.heap.size]? = some (.cells #[.string gcall, .int .i64 gwake, .int .i64 gslot, .bool glands, .slice gla gln glc, .slice gna gnn gnc, .int .i64 gland, .int .i64 gnland] 41 (0, 0)) := by rw [← hwq]; exact heap_alloc_new _ _
            have hzq : wq.heap.size = wp.heap.size + 1 := by rw [← hwq, size_al]
            have hl10 : wo.heap.size < w9.heap.size := (Array.getElem?_eq_some_iff.1 HR9.out).1
            have hrf : wq.heap[wo.heap.size]? = some (.cells #[.string fcall, .int .i64 fwake, .int .i64 fslot, .bool false, .slice (some ⟨bl, 0, none⟩) (lm + 1) flc, .slice fna fnn fnc, .int .i64 0, .int .i64 0] 41 (0, 0)) := ((HBj.out.trans (hbq.mono hzj)).block wo.heap.size hl10).trans HR9.out
            have hBq : SuAt S B wq := ((HB1.out.trans ((HBi.out.trans ((HBo.out.trans (hbq.mono HBo.out.size)).mono hzr)).mono HB1.out.size)).block B hBl).trans HB.out
            clear hwq p0 p1 p2 p3 p4 p5 p6 p7
            have s3 := cell_regrown (show wq.cell? ⟨wo.heap.size, 3, none⟩ = some (.bool false) from cell_of_row wq _ 3 _ 41 (0, 0) hrf)
            refine wp_region_quiet_below (by kernel_rfl) (by kernel_rfl) ?_
            repeat (go_big_quiet_step (fail))
            refine wpQuiet_nil ?_
            intro wz hwz
            have hbz : Below wq.heap.size wq wz := by obtain ⟨⟨dq, osq⟩, rfl⟩ := hwz; exact below_regrown wq _ _
            clear hwz
            go_wp2_with fail
            go_roundw
            case rel => exact ⟨j + 1, by omega, by go_num, Lib.hid (HBj.out.trans ((hbq.trans (hbz.mono (by omega))).mono hzj))⟩
            case measure => simp [intOf]; omega
          · obtain rfl : i = j := by omega
            go_wp2_with fail
            go_roundw
            case rel => exact ⟨i + 1, by omega, by go_num, Lib.hid (HBi.out.trans (HBo.out.mono hzr))⟩
            case measure => simp [intOf]; omega
      | true =>
        obtain ⟨y1, y2, y3⟩ := HYe.out rfl
        have d1 : decide (fland < lt) = false := decide_eq_false (by omega)
        have d2 : decide (fslot < fland) = false := decide_eq_false (by omega)
        have d3 : decide (fslot < fnland) = false := decide_eq_false (by omega)
        go_upto_region 8 with (fail)
        obtain ⟨w8, hw8⟩ : ∃ W, wo.alloc (.cells #[.string fcall, .int .i64 fwake, .int .i64 fslot, .bool true, .slice (some ⟨bl, 0, none⟩) (lm + 1) flc, .slice fna fnn fnc, .int .i64 fland, .int .i64 fnland] 41) = W := ⟨_, rfl⟩
        rw [hw8]
        have hb8 : Below wo.heap.size wo w8 := by rw [← hw8]; exact (Below.refl _ _).alloc (Nat.le_refl _) _
        have hr8 : w8.heap[wo.heap.size]? = some (.cells #[.string fcall, .int .i64 fwake, .int .i64 fslot, .bool true, .slice (some ⟨bl, 0, none⟩) (lm + 1) flc, .slice fna fnn fnc, .int .i64 fland, .int .i64 fnland] 41 (0, 0)) := by rw [← hw8]; exact heap_alloc_new _ _
        have hz8 : w8.heap.size = wo.heap.size + 1 := by rw [← hw8, size_al]
        clear hw8
        have HB8 := Lib.hid hb8
        have HR8 := Lib.hid hr8
        have r2 := cell_regrown (show w8.cell? ⟨wo.heap.size, 2, none⟩ = some (.int .i64 fslot) from cell_of_row w8 _ 2 _ 41 (0, 0) hr8)
        have r3 := cell_regrown (show w8.cell? ⟨wo.heap.size, 3, none⟩ = some (.bool true) from cell_of_row w8 _ 3 _ 41 (0, 0) hr8)
        have r6 := cell_regrown (show w8.cell? ⟨wo.heap.size, 6, none⟩ = some (.int .i64 fland) from cell_of_row w8 _ 6 _ 41 (0, 0) hr8)
        have r7 := cell_regrown (show w8.cell? ⟨wo.heap.size, 7, none⟩ = some (.int .i64 fnland) from cell_of_row w8 _ 7 _ 41 (0, 0) hr8)
        have rk := cell_regrown ((hb8.cell (p := ⟨b3, off3 + (hdN - 1) * 6, none⟩) hb3).trans k3)
        refine wp_region_quiet_below (by kernel_rfl) (by kernel_rfl) ?_
        repeat (go_big_quiet_step (fail))
        refine wpQuiet_nil ?_
        intro w9 hwz
        have hb9 : Below w8.heap.size w8 w9 := by obtain ⟨⟨dq, osq⟩, rfl⟩ := hwz; exact below_regrown w8 _ _
        clear hwz r2 r3 r6 r7 rk q0 q1 q2 q3 q4 q5 q6 q7 k1 k3
        have hr9 := (hb9.block wo.heap.size (by omega)).trans hr8
        have HB9 := Lib.hid (hb8.trans (hb9.mono (by omega)))
        have HR9 := Lib.hid hr9
        clear hb8 hb9 hr8 hr9
        go_upto_region 10 with (fail)
        obtain ⟨A2, c2, hsl, hA2⟩ := takeFl (A := some ⟨b, 0, none⟩) (c := vc) vn i (by omega) hcap.1 hcap.2.1 hcap.2.2
        go_wp2_with fail
        go_loopw [88] (fun s wr => ∃ j : Nat, j ≤ i ∧ s = .int .i64 (j : Int) ∧ Hid (Below w9.heap.size w9 wr)) (fun s _ => i - (intOf s).toNat)
        case atStart => exact ⟨0, by omega, rfl, Lib.hid (Below.refl _ _)⟩
        case round =>
          obtain ⟨j, hj, rfl, HBj⟩ := hrel
          obtain ⟨wp, hwp⟩ : ∃ wp : World, wp = wr := ⟨_, rfl⟩
          subst hwp
          have hzj := HBj.out.size
          have hz9 := HB9.out.size
          have HBo := Lib.hid (HB9.out.trans (HBj.out.mono hz9))
          by_cases hjt : j < i
          · have m0 : (0 : Int) ≤ (j : Int) := by omega
            have m1 : (j : Int) < (i : Int) := by omega
            have hjw : IntKind.i64.wrap ((j : Int) + 1) = (j : Int) + 1 := IntWalk.i64_in _ (by omega)
            have hjc : j < c.fl.length := by rw [← HVn.out]; omega
            obtain rfl := hA2 (by omega)
            have HXj := Lib.hid (HXi.out.kept (.of_below HBo.out))
            obtain ⟨b', hA', hb', hcell'⟩ := HXj.out.cells hjc
            obtain rfl : b = b' := by injection hA' with hA'; injection hA'
            have HFl' := Lib.hid (HXj.out.fl j hjc)
            have hfm' : c.fl[j]! ∈ c.fl := by rw [getElem!_pos c.fl j hjc]; exact List.getElem_mem hjc
            have HFok' := Lib.hid (HOk.out.fl _ hfm')
            have HFm' := Lib.hid hfm'
            have HFj : Hid (∃ f', c.fl[j]! = f') := Lib.hid ⟨_, rfl⟩
            obtain ⟨f', hf'⟩ := HFj.out
            have HFe' := Lib.hid hf'
            rw [hf'] at HFl' HFok' HFm'
            obtain ⟨x', hx'⟩ : ∃ x, xs[j]! = x := ⟨_, rfl⟩
            rw [hx'] at HFl' hcell'
            have p0 := hcell' 0 (by decide)
            have p1 := hcell' 1 (by decide)
            have p2 := hcell' 2 (by decide)
            have p3 := hcell' 3 (by decide)
            have p4 := hcell' 4 (by decide)
            have p5 := hcell' 5 (by decide)
            have p6 := hcell' 6 (by decide)
            have p7 := hcell' 7 (by decide)
            simp only [fmV, List.getElem?_cons_succ, List.getElem?_cons_zero, Nat.add_zero] at p0 p1 p2 p3 p4 p5 p6 p7
            have HGl := Lib.hid HFl'.out.lands
            have HGd := Lib.hid HFl'.out.land
            have HGw := Lib.hid HFl'.out.wake
            obtain ⟨gcall, gwake, gslot, glands, gla, gln, glc, gna, gnn, gnc, gland, gnland⟩ := x'
            dsimp only at p0 p1 p2 p3 p4 p5 p6 p7 HGl HGd HGw
            clear hcell' hf' hx' hfm' hA'
            go_upto_region 13 with (fail)
            obtain ⟨wq, hwq⟩ : ∃ W, wp.alloc (.cells #[.string gcall, .int .i64 gwake, .int .i64 gslot, .bool glands, .slice gla gln glc, .slice gna gnn gnc, .int .i64 gland, .int .i64 gnland] 41) = W := ⟨_, rfl⟩
            rw [hwq]
            have hbq : Below wp.heap.size wp wq := by rw [← hwq]; exact (Below.refl _ _).alloc (Nat.le_refl _) _
            have hrq : wq.heap[wp.heap.size]? = some (.cells #[.string gcall, .int .i64 gwake, .int .i64 gslot, .bool glands, .slice gla gln glc, .slice gna gnn gnc, .int .i64 gland, .int .i64 gnland] 41 (0, 0)) := by rw [← hwq]; exact heap_alloc_new _ _
            have hzq : wq.heap.size = wp.heap.size + 1 := by rw [← hwq, size_al]
            have hl10 : wo.heap.size < w9.heap.size := (Array.getElem?_eq_some_iff.1 HR9.out).1
            have hrf : wq.heap[wo.heap.size]? = some (.cells #[.string fcall, .int .i64 fwake, .int .i64 fslot, .bool true, .slice (some ⟨bl, 0, none⟩) (lm + 1) flc, .slice fna fnn fnc, .int .i64 fland, .int .i64 fnland] 41 (0, 0)) := ((HBj.out.trans (hbq.mono hzj)).block wo.heap.size hl10).trans HR9.out
            have hBq : SuAt S B wq := ((HB1.out.trans ((HBi.out.trans ((HBo.out.trans (hbq.mono HBo.out.size)).mono hzr)).mono HB1.out.size)).block B hBl).trans HB.out
            clear hwq p0 p1 p2 p3 p4 p5 p6 p7
            have s3 := cell_regrown (show wq.cell? ⟨wo.heap.size, 3, none⟩ = some (.bool true) from cell_of_row wq _ 3 _ 41 (0, 0) hrf)
            have t3 := cell_regrown (show wq.cell? ⟨wp.heap.size, 3, none⟩ = some (.bool glands) from cell_of_row wq _ 3 _ 41 (0, 0) hrq)
            cases glands with
            | false =>
              refine wp_region_quiet_below (by kernel_rfl) (by kernel_rfl) ?_
              repeat (go_big_quiet_step (fail))
              refine wpQuiet_nil ?_
              intro wz hwz
              have hbz : Below wq.heap.size wq wz := by obtain ⟨⟨dq, osq⟩, rfl⟩ := hwz; exact below_regrown wq _ _
              clear hwz
              go_wp2_with fail
              go_roundw
              case rel => exact ⟨j + 1, by omega, by go_num, Lib.hid (HBj.out.trans ((hbq.trans (hbz.mono (by omega))).mono hzj))⟩
              case measure => simp [intOf]; omega
            | true =>
              have s6 := cell_regrown (show wq.cell? ⟨wo.heap.size, 6, none⟩ = some (.int .i64 fland) from cell_of_row wq _ 6 _ 41 (0, 0) hrf)
              have t6 := cell_regrown (show wq.cell? ⟨wp.heap.size, 6, none⟩ = some (.int .i64 gland) from cell_of_row wq _ 6 _ 41 (0, 0) hrq)
              have hw1 : ∃ wf : Nat, fwake = (wf : Int) ∧ wf < 4 ∧ f.wake.toNat = wf := ⟨fwake.toNat, by have h1 := HWake.out; have h2 := HFok.out.wk; rw [← h1] at h2; omega, by have h1 := HWake.out; have h2 := HFok.out.wk; rw [← h1] at h2; omega, by rw [← HWake.out]⟩
              have hw2 : ∃ wg : Nat, gwake = (wg : Int) ∧ wg < 4 ∧ f'.wake.toNat = wg := ⟨gwake.toNat, by have h1 := HGw.out; have h2 := HFok'.out.wk; rw [← h1] at h2; omega, by have h1 := HGw.out; have h2 := HFok'.out.wk; rw [← h1] at h2; omega, by rw [← HGw.out]⟩
              obtain ⟨wf, hwf, hwf4, hwfn⟩ := hw1
              obtain ⟨wg, hwg, hwg4, hwgn⟩ := hw2
              have s1 := cell_regrown (show wq.cell? ⟨wo.heap.size, 1, none⟩ = some (.int .i64 (wf : Int)) by rw [← hwf]; exact cell_of_row wq _ 1 _ 41 (0, 0) hrf)
              have t1 := cell_regrown (show wq.cell? ⟨wp.heap.size, 1, none⟩ = some (.int .i64 (wg : Int)) by rw [← hwg]; exact cell_of_row wq _ 1 _ 41 (0, 0) hrq)
              have g1 := cell_regrown (hBq.gap hwg4 hwf4)
              have g2 := cell_regrown (hBq.gap hwf4 hwg4)
              have hnear : (decide (fland - gland < S.g (4 * wg + wf)) && decide (gland - fland < S.g (4 * wf + wg))) = false := by
                have h1 := HP.out.t f HFm.out f' HFm'.out ?ne (by rw [← HLands.out]) (by rw [← HGl.out]) f.land f'.land (.inl rfl) (.inl rfl)
                · unfold nearU at h1
                  rw [hwfn, hwgn, ← HLand.out, ← HGd.out] at h1
                  exact h1
                · intro he
                  have hij := calls_inj HOk.out (i := i) (j := j) HNi.out hjc (by rw [HFi.out, HFe'.out]; exact he)
                  omega
              have bfl : 0 ≤ fland ∧ fland ≤ 200000 := by have h2 := HFok.out.land; rw [← HLand.out] at h2; exact h2
              have bgl : 0 ≤ gland ∧ gland ≤ 200000 := by have h2 := HFok'.out.land; rw [← HGd.out] at h2; exact h2
              have v1 : IntKind.i64.wrap (fland - gland) = fland - gland := IntWalk.i64_in _ (by omega)
              have v2 : IntKind.i64.wrap (gland - fland) = gland - fland := IntWalk.i64_in _ (by omega)
              have u0 : (0 : Int) ≤ (wf : Int) := by omega
              have u1 : (wf : Int) < 4 := by omega
              have u2 : (0 : Int) ≤ (wg : Int) := by omega
              have u3 : (wg : Int) < 4 := by omega
              generalize S.g (4 * wg + wf) = G1 at g1 hnear
              generalize S.g (4 * wf + wg) = G2 at g2 hnear
              clear hwf hwg hwfn hwgn bfl bgl hBq hrf hrq HFl HFl' y1 y2 y3 d1 d2 d3 HNo HYe
              cases e1 : decide (fland - gland < G1) with
              | false =>
                clear hnear
                refine wp_region_quiet_below (by kernel_rfl) (by kernel_rfl) ?_
                repeat (go_big_quiet_step (fail))
                refine wpQuiet_nil ?_
                intro wz hwz
                have hbz : Below wq.heap.size wq wz := by obtain ⟨⟨dq, osq⟩, rfl⟩ := hwz; exact below_regrown wq _ _
                clear hwz
                go_wp2_with fail
                go_roundw
                case rel => exact ⟨j + 1, by omega, by go_num, Lib.hid (HBj.out.trans ((hbq.trans (hbz.mono (by omega))).mono hzj))⟩
                case measure => simp [intOf]; omega
              | true =>
                have e2 : decide (gland - fland < G2) = false := by rw [e1] at hnear; simpa using hnear
                clear hnear
                refine wp_region_quiet_below (by kernel_rfl) (by kernel_rfl) ?_
                repeat (go_big_quiet_step (fail))
                refine wpQuiet_nil ?_
                intro wz hwz
                have hbz : Below wq.heap.size wq wz := by obtain ⟨⟨dq, osq⟩, rfl⟩ := hwz; exact below_regrown wq _ _
                clear hwz
                go_wp2_with fail
                go_roundw
                case rel => exact ⟨j + 1, by omega, by go_num, Lib.hid (HBj.out.trans ((hbq.trans (hbz.mono (by omega))).mono hzj))⟩
                case measure => simp [intOf]; omega
          · obtain rfl : i = j := by omega
            go_wp2_with fail
            go_roundw
            case rel => exact ⟨i + 1, by omega, by go_num, Lib.hid (HBi.out.trans (HBo.out.mono hzr))⟩
            case measure => simp [intOf]; omega
    · obtain rfl : vn = i := by omega
      go_wp2
      go_ret
      exact ⟨rfl, HB1.out.trans (HBi.out.mono HB1.out.size)⟩
end Go.Proofs.YtjmdcpcoliljfaaGreatDoor

/- CentreLands: the walk. -/
namespace Go.Proofs.YtjmdcpcoliljfaaGreatDoor
open Go.RowKit

/-- A block outside of F stays. -/
theorem SuAt.off {F : Nat → Prop} {S : Su} {b : Nat} {w w' : World} (h : SuAt S b w) (ho : Off F w w') (hb : ¬ F b) : SuAt S b w' := (ho.block b (Array.getElem?_eq_some_iff.1 h).1 hb).trans h
theorem SuAt.below {S : Su} {b : Nat} {w w' : World} (h : SuAt S b w) (hb : Below w.heap.size w w') : SuAt S b w' := (hb.block b (Array.getElem?_eq_some_iff.1 h).1).trans h
/-- What holds in CentreLands behind any number of inputs: the setup lies at B; the flights' landing times. -/
def LandJ (S : Su) (B : Nat) (_ : Nat) (c : Ce) (F : Nat → Prop) (w : World) : Prop := SuAt S B w ∧ ¬ F B ∧ (∀ b, F b → B < b) ∧ Pw LandOne (LandTwo S) c.fl
theorem run13 (S : Su) (l : List Inp) (hs : List Hd) (N N1 m B : Nat) (hm : m ≤ 14) (hN : N ≤ N1) (hB : B < N1) : RunF kindsS S l hs N N1 m 13 #[.pointer (some ⟨B, 0, none⟩)] (LandJ S B) := by
  intro k c F F' g wa wb hk hS hok hacc hJ hF hF' hN1 hb hc hof hsub _
  obtain ⟨h1, h2, h3, h4⟩ := hJ
  have hp := step_land hS hok kindsS (l[k]!) h4
  have hs := h1.off hof h2
  refine (cl13_any hc (step_ok hok (by omega) kindsS _) hS hs hp _ _ _ _ _).mono ?_
  rintro e w' ⟨r1, r2⟩
  exact ⟨r1, .of_below r2 (by have := hof.size; omega), hs.below r2, fun h => by have := hF' B h; omega, fun b hb => by have := hF' b hb; omega, hp⟩
set_option maxRecDepth 100000 in
set_option maxHeartbeats 8000000 in
theorem lands_any (S : Su) (l : List Inp) (hs : List Hd) (A : Option Addr) (n cA : Nat) (w : World) (h : ArgOk S l hs A n cA w) :
    Calls Tryz.prog 3 #[suA S, .slice A n cA] w fun e w' => e = .returned (.bool true) ∧ Below w.heap.size w w' := by
  obtain ⟨V, hV, hbV, hzV, hgB⟩ := ArgOk.setup (S := S) (w := w)
  have HGB := Lib.hid hgB
  have HBV := Lib.hid hbV
  have HFa := Lib.hid (fact_any V (h.ks.below hbV h.pos) (by omega))
  have HR := Lib.hid (fun (W : World) (hb : Below V.heap.size V W) => (run_any S l hs w.heap.size n (min n 14) A cA 13 #[.pointer (some ⟨w.heap.size, 0, none⟩)] (LandJ S w.heap.size) W kindsS (h.ks.below (hbV.trans (hb.mono hbV.size)) h.pos) kindsS_ok h.pos (Nat.le_trans hbV.size hb.size) rfl (h.ins.below (hbV.trans (hb.mono hbV.size))) h.cap h.nil
    (fun k c F W1 W2 hJ hb2 => ⟨hJ.1.below hb2, hJ.2⟩) (fun F W1 hb2 hF => ⟨((hb.trans (hb2.mono hb.size)).block w.heap.size (by omega)).trans hgB, fun hf => by have := hF _ hf; have := hb.size; omega, fun b hb' => by have := hF b hb'; have := hb.size; omega, Pw.nil⟩) ⟨_, _, rfl, by kernel_rfl, rfl⟩ (run13 S l hs _ _ _ _ (by omega) (Nat.le_trans hbV.size hb.size) (by have := hb.size; omega))).mono fun e W' hh => (show e = .returned (.bool true) ∧ Below w.heap.size W W' from ⟨hh.1, hh.2.1⟩))
  unfold suA setupA at HR ⊢
  clear hbV hgB h
  go_enter Tryz.func3, Tryz.ntmps3
  go_wp2_with (first
    | (first | (refine wpList_load_row rfl 27 _ rfl w.heap.size rfl 27 _ (0, 0) _ HG1.out Tryz.underlying27 rfl (by kernel_rfl) ?_) | (refine wpList_load_row_w 27 _ rfl w.heap.size rfl rfl 27 _ (0, 0) _ HG1.out Tryz.underlying27 rfl (by kernel_rfl) ?_))
    | (go_at_call 11; go_loud (refine HFa.out.mono ?_; rintro e w1 ⟨rfl, hb1⟩; have HG1 := Lib.hid ((hb1.block w.heap.size (by omega)).trans HGB.out); have HB1 := Lib.hid hb1; clear hb1))
    | (go_at_call 12; go_loud (refine (HR.out w1 HB1.out).mono ?_; rintro e w2 ⟨rfl, hb2⟩; have HB2 := Lib.hid hb2; clear hb2)))
  go_ret
  exact ⟨rfl, (HBV.out.trans (HB1.out.mono HBV.out.size)).trans HB2.out⟩
end Go.Proofs.YtjmdcpcoliljfaaGreatDoor

/- The function given to run in CentreJoins; the walk. -/
namespace Go.Proofs.YtjmdcpcoliljfaaGreatDoor
open Go.RowKit

/-- The first node's time in a tube. -/
theorem TuA.fst {A : Option Addr} {n : Nat} {l : Tu} {w : World} (h : TuA A n l w) (h0 : 0 < n) : ∃ b off, A = some ⟨b, off, none⟩ ∧ b < w.heap.size ∧ w.cell? ⟨b, off, none⟩ = some (.int .i64 (fstT l)) := by
  obtain ⟨b, off, hA, hb, hr⟩ := h.2 h0
  refine ⟨b, off, hA, hb, ?_⟩
  have h1 : w.cell? ⟨b, off + 0 * 6 + 0, none⟩ = some (.int .i64 (fstT l)) := hr 0 (by omega) 0 _ rfl
  rwa [show off + 0 * 6 + 0 = off by omega] at h1
/-- The legs' row. -/
theorem FlM.legCells {F : Nat → Prop} {x : Fm} {ts : List Hd} {f : Fl} {w : World} (h : FlM F x ts f w) (h0 : 0 < f.legs.length) : ∃ bl, x.la = some ⟨bl, 0, none⟩ ∧ bl < w.heap.size ∧ ∀ q, q < f.legs.length → w.cell? ⟨bl, q, none⟩ = some (.slice (ts[q]!).A (ts[q]!).n (ts[q]!).c) := by
  have hl := h.legs.1
  have hln := h.ln
  rw [← hln] at hl
  obtain ⟨bl, cap, hv, _, hb⟩ := hl.form (by omega)
  have hA : x.la = some ⟨bl, 0, none⟩ := by injection hv
  rw [hA] at hl
  refine ⟨bl, hA, hb, fun q hq => ?_⟩
  rw [hl.cellAt q (by omega)]
  have := rowsV_at hdV_len ts q (by rw [h.tl]; exact hq) 0 (by omega)
  rw [Nat.mul_one, Nat.add_zero] at this
  rw [this, getElem!_pos ts q (by rw [h.tl]; exact hq)]
  rfl

set_option maxRecDepth 100000 in
set_option maxHeartbeats 32000000 in
theorem cl15_any {F : Nat → Prop} {g : Nat} {S : Su} {c : Ce} {w : World} (h : CeAt F g S c w) (hok : CeOk c) (hp : Pw JoinOne (fun _ _ => True) c.fl) (x : Inp) (A : Option Addr) (n cA : Nat) (k : Int) :
    Calls Tryz.prog 15 #[.pointer (some ⟨g, 0, none⟩), inpV x A n cA, .int .i64 k] w fun e w' => e = .returned (.bool true) ∧ Below w.heap.size w w' := by
  obtain ⟨y, hM⟩ := h
  have HF := Lib.hid (fun (W : World) (hb : Below w.heap.size w W) => Flights_any (hM.below hb) hok)
  have HOk := Lib.hid hok
  have HP := Lib.hid hp
  have h24 : c.fl.length ≤ 24 := by have := hok.ow.n; have := hok.len; omega
  clear hM hok hp
  unfold inpV
  go_enter Tryz.func15, Tryz.ntmps15
  go_wp2_with (go_at_call 14; go_loud (refine (HF.out _ ((Below.refl _ _).alloc (Nat.le_refl _) _)).mono ?_; rintro e w1 ⟨⟨vA, vn, vc⟩, rfl, ⟨xs, ts, hX⟩, hb1⟩; have HX := Lib.hid hX; have HB1 := Lib.hid (((Below.refl _ w).alloc (Nat.le_refl _) _).trans (hb1.mono (by simp))); clear hX hb1; have HVn : Hid (vn = c.fl.length) := Lib.hid HX.out.n))
  go_loopw [18] (fun s wr => ∃ i : Nat, i ≤ vn ∧ s = .int .i64 (i : Int) ∧ Hid (Below w1.heap.size w1 wr)) (fun s _ => vn - (intOf s).toNat)
  case atStart => exact ⟨0, by omega, rfl, Lib.hid (Below.refl _ _)⟩
  case round =>
    obtain ⟨i, hi, rfl, HBi⟩ := hrel
    obtain ⟨wo, hwo⟩ : ∃ wo : World, wo = wr := ⟨_, rfl⟩
    subst hwo
    have hzr := HBi.out.size
    by_cases hlt : i < vn
    · have l0 : (0 : Int) ≤ (i : Int) := by omega
      have l1 : (i : Int) < (vn : Int) := by omega
      have hiw : IntKind.i64.wrap ((i : Int) + 1) = (i : Int) + 1 := IntWalk.i64_in _ (by have := HVn.out; omega)
      have hic : i < c.fl.length := by rw [← HVn.out]; exact hlt
      have HXi := Lib.hid (HX.out.kept (.of_below HBi.out))
      obtain ⟨b, hA, hb, hcell⟩ := HXi.out.cells hic
      have hA : vA = some ⟨b, 0, none⟩ := hA
      subst hA
      have HFl := Lib.hid (HXi.out.fl i hic)
      have hfm : c.fl[i]! ∈ c.fl := by rw [getElem!_pos c.fl i hic]; exact List.getElem_mem hic
      have HFok := Lib.hid (HOk.out.fl _ hfm)
      have HJo := Lib.hid (HP.out.o _ hfm)
      obtain ⟨f, hf⟩ : ∃ f, c.fl[i]! = f := ⟨_, rfl⟩
      rw [hf] at HFl HFok HJo
      obtain ⟨x, hx⟩ : ∃ x, xs[i]! = x := ⟨_, rfl⟩
      rw [hx] at HFl hcell
      obtain ⟨bl, e1, hbl, hlc⟩ := HFl.out.legCells HFok.out.n0
      have e2 := HFl.out.ln
      have HLc := Lib.hid hlc
      have q0 := hcell 0 (by decide)
      have q1 := hcell 1 (by decide)
      have q2 := hcell 2 (by decide)
      have q3 := hcell 3 (by decide)
      have q4 := hcell 4 (by decide)
      have q5 := hcell 5 (by decide)
      have q6 := hcell 6 (by decide)
      have q7 := hcell 7 (by decide)
      simp only [fmV, List.getElem?_cons_succ, List.getElem?_cons_zero, Nat.add_zero] at q0 q1 q2 q3 q4 q5 q6 q7
      obtain ⟨fcall, fwake, fslot, flands, fla, fln, flc, fna, fnn, fnc, fland, fnland⟩ := x
      dsimp only at q0 q1 q2 q3 q4 q5 q6 q7 e1 e2
      subst e1
      obtain ⟨m, hm⟩ : ∃ m, f.legs.length = m := ⟨_, rfl⟩
      rw [hm] at e2
      subst e2
      have HM := Lib.hid hm
      have hm0 : 0 < fln := by rw [← hm]; exact HFok.out.n0
      have hm6 : fln ≤ 6 := by rw [← hm]; exact HFok.out.n1
      clear hcell hlc hm hf hfm
      go_upto_region 4 with (fail)
      obtain ⟨w8, hw8⟩ : ∃ W, wo.alloc (.cells #[.string fcall, .int .i64 fwake, .int .i64 fslot, .bool flands, .slice (some ⟨bl, 0, none⟩) fln flc, .slice fna fnn fnc, .int .i64 fland, .int .i64 fnland] 41) = W := ⟨_, rfl⟩
      rw [hw8]
      have hb8 : Below wo.heap.size wo w8 := by rw [← hw8]; exact (Below.refl _ _).alloc (Nat.le_refl _) _
      have hr8 : w8.heap[wo.heap.size]? = some (.cells #[.string fcall, .int .i64 fwake, .int .i64 fslot, .bool flands, .slice (some ⟨bl, 0, none⟩) fln flc, .slice fna fnn fnc, .int .i64 fland, .int .i64 fnland] 41 (0, 0)) := by rw [← hw8]; exact heap_alloc_new _ _
      have hz8 : w8.heap.size = wo.heap.size + 1 := by rw [← hw8, size_al]
      clear hw8 q0 q1 q2 q3 q4 q5 q6 q7
      have HC4 := Lib.hid (fun (W : World) (hb : Below w8.heap.size w8 W) => (show W.cell? ⟨wo.heap.size, 4, none⟩ = some (.slice (some ⟨bl, 0, none⟩) fln flc) from cell_of_row W _ 4 _ 41 (0, 0) ((hb.block _ (by omega)).trans hr8)))
      have HB8 := Lib.hid hb8
      clear hb8 hr8
      go_wp2_with fail
      go_loopw [9] (fun s wr => ∃ q : Nat, 1 ≤ q ∧ q ≤ fln ∧ s = .int .i64 (q : Int) ∧ Hid (Below w8.heap.size w8 wr)) (fun s _ => fln - (intOf s).toNat)
      case atStart => exact ⟨1, by omega, by omega, rfl, Lib.hid (Below.refl _ _)⟩
      case round =>
        obtain ⟨q, hq1, hq, rfl, HBq⟩ := hrel
        obtain ⟨wp, hwp⟩ : ∃ wp : World, wp = wr := ⟨_, rfl⟩
        subst hwp
        have hzq := HBq.out.size
        have c4 := HC4.out wp HBq.out
        have HBo := Lib.hid (HB8.out.trans (HBq.out.mono (by omega)))
        by_cases hqt : q < fln
        · have m0 : (0 : Int) ≤ (q : Int) := by omega
          have m1 : (q : Int) < (fln : Int) := by omega
          have hqw : IntKind.i64.wrap ((q : Int) + 1) = (q : Int) + 1 := IntWalk.i64_in _ (by omega)
          have hqm : IntKind.i64.wrap ((q : Int) - 1) = ((q - 1 : Nat) : Int) := by rw [IntWalk.i64_in _ (by omega)]; omega
          have m2 : (0 : Int) ≤ ((q - 1 : Nat) : Int) := by omega
          have m3 : ((q - 1 : Nat) : Int) < (fln : Int) := by omega
          have hqf : q < f.legs.length := by rw [HM.out]; exact hqt
          have HFq := Lib.hid (HFl.out.kept (.of_below HBo.out))
          have d1 := (HBo.out.cell (p := ⟨bl, q, none⟩) hbl).trans (HLc.out q hqf)
          have d0 := (HBo.out.cell (p := ⟨bl, q - 1, none⟩) hbl).trans (HLc.out (q - 1) (by omega))
          have HT1 := Lib.hid (HFq.out.leg q hqf).tua
          have HT0 := Lib.hid (HFq.out.leg (q - 1) (by omega)).tua
          have HO1 := Lib.hid (HFok.out.legs q hqf)
          have HO0 := Lib.hid (HFok.out.legs (q - 1) (by omega))
          obtain ⟨j1, j2, j3⟩ := HJo.out.legs q (by omega) hqf
          have HJ1 := Lib.hid j1
          have HJ2 := Lib.hid (And.intro j2 j3)
          clear j1 j2 j3
          obtain ⟨⟨tA, tn, tc⟩, ht⟩ : ∃ t, ts[i]![q]! = t := ⟨_, rfl⟩
          obtain ⟨⟨uA, un, uc⟩, hu⟩ : ∃ t, ts[i]![q - 1]! = t := ⟨_, rfl⟩
          rw [ht] at d1 HT1
          rw [hu] at d0 HT0
          dsimp only at d1 d0 HT1 HT0
          obtain ⟨L1, hL1⟩ : ∃ L, f.legs[q]! = L := ⟨_, rfl⟩
          obtain ⟨L0, hL0⟩ : ∃ L, f.legs[q - 1]! = L := ⟨_, rfl⟩
          rw [hL1] at HT1 HO1 HJ1 HJ2
          rw [hL0] at HT0 HO0 HJ1 HJ2
          have htn : 0 < tn := by rw [← HT1.out.1]; exact HO1.out.n0
          obtain ⟨b3, off3, e3, hb3, k3⟩ := HT1.out.fst htn
          subst e3
          have etn : ((tn : Int) == 0) = false := by simp; omega
          have ht64 : tn ≤ 64 := by rw [← HT1.out.1]; exact HO1.out.n1
          have n1 : (0 : Int) < (tn : Int) := by omega
          have HCu := Lib.hid (Cut_one uA un uc L0 (fstT L1) wp HT0.out HO0.out HJ2.out.1 HJ2.out.2)
          have HNd := Lib.hid (atN_ok HO0.out HJ2.out.1 HJ2.out.2).1
          generalize fstT L1 = t1 at k3 HCu HJ1 HNd
          have HIn := Lib.hid (fun (W : World) (gq : Nat) (hb : Below wp.heap.size wp W) (h1 : TuA (some ⟨gq, 0, none⟩) 1 [atN L0 t1] W) => (Inside_one (some ⟨gq, 0, none⟩) 1 1 (atN L0 t1) (some ⟨b3, off3, none⟩) tn tc L1 W h1 HNd.out (HT1.out.below hb) HO1.out).mono fun e W2 hh => (show e = .returned (.tuple #[.bool true, .int .i64 0]) ∧ Below W.heap.size W W2 from ⟨by rw [hh.1, HJ1.out], hh.2⟩))
          have C5 := Lib.hid (fun (W : World) (hb : Below wp.heap.size wp W) => (show W.cell? ⟨wo.heap.size, 4, none⟩ = some (.slice (some ⟨bl, 0, none⟩) fln flc) ∧ W.cell? ⟨bl, q, none⟩ = some (.slice (some ⟨b3, off3, none⟩) tn tc) from ⟨(hb.cell (p := ⟨wo.heap.size, 4, none⟩) (show wo.heap.size < wp.heap.size by omega)).trans c4, (hb.cell (p := ⟨bl, q, none⟩) (show bl < wp.heap.size by have := HBo.out.size; omega)).trans d1⟩))
          clear ht hu hL1 hL0
          go_wp2_with (first
            | (go_at_call 16; go_loud (refine HCu.out.mono ?_; rintro e w5 ⟨gq, rfl, ht5, hb5⟩; obtain ⟨c5, c6⟩ := C5.out w5 hb5; have HT5 := Lib.hid ht5; have HB5 := Lib.hid hb5; clear ht5 hb5))
            | (go_at_call 17; go_loud (refine (HIn.out w5 gq HB5.out HT5.out).mono ?_; rintro e w6 ⟨rfl, hb6⟩; have HB6 := Lib.hid (HB5.out.trans (hb6.mono HB5.out.size)); clear hb6)))
          go_roundw
          case rel => exact ⟨q + 1, by omega, by omega, by go_num, Lib.hid (HBq.out.trans (HB6.out.mono hzq))⟩
          case measure => simp [intOf]; omega
        · obtain rfl : fln = q := by omega
          go_wp2_with fail
          go_roundw
          case rel => exact ⟨i + 1, by omega, by go_num, Lib.hid (HBi.out.trans (HBo.out.mono hzr))⟩
          case measure => simp [intOf]; omega
    · obtain rfl : vn = i := by omega
      go_wp2
      go_ret
      exact ⟨rfl, HB1.out.trans (HBi.out.mono HB1.out.size)⟩

theorem run15 (S : Su) (l : List Inp) (hs : List Hd) (N N1 m : Nat) (hm : m ≤ 14) (hN : N ≤ N1) : RunF kindsS S l hs N N1 m 15 #[] (fun _ c _ _ => Pw JoinOne (fun _ _ => True) c.fl) := by
  intro k c F F' g wa wb hk hS hok hacc hJ hF hF' hN1 hb hc hof _ _
  have hp := step_join (S := S) hok kindsS (l[k]!) hJ
  refine (cl15_any hc (step_ok hok (by omega) kindsS _) hp _ _ _ _ _).mono ?_
  rintro e w' ⟨h1, h2⟩
  exact ⟨h1, .of_below h2 (by have := hof.size; omega), hp⟩
set_option maxRecDepth 100000 in
set_option maxHeartbeats 8000000 in
theorem joins_any (S : Su) (l : List Inp) (hs : List Hd) (A : Option Addr) (n cA : Nat) (w : World) (h : ArgOk S l hs A n cA w) :
    Calls Tryz.prog 4 #[suA S, .slice A n cA] w fun e w' => e = .returned (.bool true) ∧ Below w.heap.size w w' := by
  obtain ⟨V, hV, hbV, hzV, hgB⟩ := ArgOk.setup (S := S) (w := w)
  have HGB := Lib.hid hgB
  have HBV := Lib.hid hbV
  have HFa := Lib.hid (fact_any V (h.ks.below hbV h.pos) (by omega))
  have HR := Lib.hid (fun (W : World) (hb : Below V.heap.size V W) => (run_any S l hs w.heap.size n (min n 14) A cA 15 #[] (fun _ c _ _ => Pw JoinOne (fun _ _ => True) c.fl) W kindsS (h.ks.below (hbV.trans (hb.mono hbV.size)) h.pos) kindsS_ok h.pos (Nat.le_trans hbV.size hb.size) rfl (h.ins.below (hbV.trans (hb.mono hbV.size))) h.cap h.nil (fun _ _ _ _ _ hJ _ => hJ) (fun _ _ _ _ => Pw.nil) ⟨_, _, rfl, by kernel_rfl, rfl⟩ (run15 S l hs _ _ _ (by omega) (Nat.le_trans hbV.size hb.size))).mono fun e W' hh => (show e = .returned (.bool true) ∧ Below w.heap.size W W' from ⟨hh.1, hh.2.1⟩))
  unfold suA setupA at HR ⊢
  clear hbV hgB h
  go_enter Tryz.func4, Tryz.ntmps4
  go_wp2_with (first
    | (first | (refine wpList_load_row rfl 27 _ rfl w.heap.size rfl 27 _ (0, 0) _ HG1.out Tryz.underlying27 rfl (by kernel_rfl) ?_) | (refine wpList_load_row_w 27 _ rfl w.heap.size rfl rfl 27 _ (0, 0) _ HG1.out Tryz.underlying27 rfl (by kernel_rfl) ?_))
    | (go_at_call 11; go_loud (refine HFa.out.mono ?_; rintro e w1 ⟨rfl, hb1⟩; have HG1 := Lib.hid ((hb1.block w.heap.size (by omega)).trans HGB.out); have HB1 := Lib.hid hb1; clear hb1))
    | (go_at_call 12; go_loud (refine (HR.out w1 HB1.out).mono ?_; rintro e w2 ⟨rfl, hb2⟩; have HB2 := Lib.hid hb2; clear hb2)))
  go_ret
  exact ⟨rfl, (HBV.out.trans (HB1.out.mono HBV.out.size)).trans HB2.out⟩
end Go.Proofs.YtjmdcpcoliljfaaGreatDoor

