/- Contracts and plain words, part 19: texts U22, U23, U24, U25, Open. -/
import Derived.Test.YtjmdcpcoliljfaaGreatDoorG12
import Derived.Test.YtjmdcpcoliljfaaGreatDoorG18
import Derived.Test.YtjmdcpcoliljfaaGreatDoorG01
import Derived.Deep.Slices
import Derived.Deep.Fields
import Derived.ChangeSame
import Derived.OpenShut
import Derived.SizedLaws
/- The fixed example of package keep. -/
namespace Go.Proofs.YtjmdcpcoliljfaaGreatDoor
open Go.RowKit

def stT (x y a b : Int) : Tu := [⟨a, x, y, 0, 1, 0⟩, ⟨b, x, y, 0, 1, 0⟩]
set_option maxRecDepth 100000 in
theorem straight_any (x y a b : Int) (w : World) : Calls Tryz.prog 38 #[.agg #[.int .i64 x, .int .i64 y], .int .i64 a, .int .i64 b] w fun e w' => (∃ A c, e = .returned (.slice A 2 c) ∧ TuA A 2 (stT x y a b) w') ∧ Below w.heap.size w w' := by
  go_enter Tryz.func38, Tryz.ntmps38
  go_wp2
  go_ret
  have hb : ((w.alloc (.cells #[.int .i64 x, .int .i64 y] 43)).alloc (.cells #[.int .i64 a, .int .i64 x, .int .i64 y, .int .i64 0, .int .i64 1, .int .i64 0, .int .i64 b, .int .i64 x, .int .i64 y, .int .i64 0, .int .i64 1, .int .i64 0] 47)).heap[w.heap.size + 1]? = some (.cells #[.int .i64 a, .int .i64 x, .int .i64 y, .int .i64 0, .int .i64 1, .int .i64 0, .int .i64 b, .int .i64 x, .int .i64 y, .int .i64 0, .int .i64 1, .int .i64 0] 47 (0, 0)) := by
    rw [← size_al w (.cells #[.int .i64 x, .int .i64 y] 43)]; exact heap_alloc_new _ _
  refine ⟨⟨some ⟨w.heap.size + 1, 0, none⟩, 2, rfl, rfl, fun _ => ⟨w.heap.size + 1, 0, rfl, (Array.getElem?_eq_some_iff.1 hb).1, fun i hi j v hv => ?_⟩⟩, ((Below.refl _ _).alloc (Nat.le_refl _) _).alloc (by simp) _⟩
  rcases (show i = 0 ∨ i = 1 by omega) with e | e <;> subst e
  · match j, hv with
    | 0, hv => cases hv; exact cell_of_row _ _ 0 _ _ _ hb
    | 1, hv => cases hv; exact cell_of_row _ _ 1 _ _ _ hb
    | 2, hv => cases hv; exact cell_of_row _ _ 2 _ _ _ hb
    | 3, hv => cases hv; exact cell_of_row _ _ 3 _ _ _ hb
    | 4, hv => cases hv; exact cell_of_row _ _ 4 _ _ _ hb
    | 5, hv => cases hv; exact cell_of_row _ _ 5 _ _ _ hb
  · match j, hv with
    | 0, hv => cases hv; exact cell_of_row _ _ 6 _ _ _ hb
    | 1, hv => cases hv; exact cell_of_row _ _ 7 _ _ _ hb
    | 2, hv => cases hv; exact cell_of_row _ _ 8 _ _ _ hb
    | 3, hv => cases hv; exact cell_of_row _ _ 9 _ _ _ hb
    | 4, hv => cases hv; exact cell_of_row _ _ 10 _ _ _ hb
    | 5, hv => cases hv; exact cell_of_row _ _ 11 _ _ _ hb
def kindsS : Nat → ByteArray
  | 0 => ⟨#[102, 105, 108, 101]⟩
  | 1 => ⟨#[111, 102, 102, 101, 114]⟩
  | 2 => ⟨#[97, 99, 99, 101, 112, 116]⟩
  | 3 => ⟨#[99, 108, 101, 97, 114]⟩
  | 4 => ⟨#[104, 101, 97, 114]⟩
  | 5 => ⟨#[114, 101, 102, 117, 115, 101]⟩
  | _ => ⟨#[101, 110, 100]⟩
theorem kindsS_ok : KsOk kindsS := fun i hi => by
  rcases (show i = 0 ∨ i = 1 ∨ i = 2 ∨ i = 3 ∨ i = 4 ∨ i = 5 ∨ i = 6 by omega) with e | e | e | e | e | e | e <;> subst e <;> decide
def exS : Su := ⟨100, 100, fun _ => 0⟩
def exA : Inp := ⟨0, 0, ⟨#[65]⟩, ⟨#[69, 65, 83, 84]⟩, .empty, stT 0 0 0 9, 0, 0, false⟩
def exB : Inp := ⟨0, 0, ⟨#[66]⟩, ⟨#[69, 65, 83, 84]⟩, .empty, stT 50 0 5 20, 0, 0, false⟩
theorem exS_ok : SuOk exS := ⟨by decide, by decide, fun _ _ => by simp [exS]⟩
theorem exS_E : suE exS = 0 := by kernel_rfl
theorem ex1 (ks : Nat → ByteArray) : (stepP ks exS newC exA).2 = 0 := by kernel_rfl
theorem ex2 (ks : Nat → ByteArray) : (stepP ks exS (stepP ks exS newC exA).1 exB).2 = 15 := by kernel_rfl
theorem ex3 (ks : Nat → ByteArray) : (stepP ks exS (stepP ks exS newC exA).1 exB).1.fl = [newF exS newC exA] := by kernel_rfl

/-- A step, seen from a block on. -/
def StepL (N g : Nat) (S : Su) (w : World) (d : Ce × Int) (e : Ending) (w' : World) : Prop :=
  e = .returned (.int .i64 d.2) ∧ Below N w w' ∧ ∃ F' : Nat → Prop, CeAt F' g S d.1 w' ∧ ∀ b, F' b → N ≤ b
theorem KsAt.below {ks : Nat → ByteArray} {w w' : World} {N : Nat} (h : KsAt ks w) (hb : Below N w w') (hN : 0 < N) : KsAt ks w' := fun i hi => (hb.cell (p := ⟨0, i, none⟩) hN).trans (h i hi)
theorem Step_low {F : Nat → Prop} {g : Nat} {S : Su} {c : Ce} {w : World} {N : Nat} (h : CeAt F g S c w) (hF : ∀ b, F b → N ≤ b) (h1 : 0 < N) (hN : N ≤ w.heap.size) (hok : CeOk c) (hS : SuOk S) (h20 : c.acc < 20) (x : Inp) (A : Option Addr) (n cA : Nat) (hT : TuA A n x.tube w) (hn : n ≤ maxLen)
    (hs1 : x.call.size ≤ maxLen) (hs2 : x.by_.size ≤ maxLen) (hs3 : x.to_.size ≤ maxLen) (ks : Nat → ByteArray) (hks : KsAt ks w) (hko : KsOk ks) :
    Calls Tryz.prog 36 #[.pointer (some ⟨g, 0, none⟩), inpV x A n cA] w fun e w' => StepL N g S w (stepP ks S c x) e w' ∧ Off F w w' ∧ ∃ F' : Nat → Prop, CeAt F' g S (stepP ks S c x).1 w' ∧ (∀ b, F' b → F b ∨ w.heap.size ≤ b) := by
  obtain ⟨y, hM⟩ := h
  refine (Step_any hM hok hS h20 x A n cA hT hn hs1 hs2 hs3 ks hks hko (fun h => by have := hF 0 h; omega)).mono ?_
  rintro e w' ⟨h1, F', h2, h3, h4⟩
  exact ⟨⟨h1, h3.below hF hN, F', h2, fun b hb => (h4 b hb).elim (hF b) (fun h => by omega)⟩, h3, F', h2, h4⟩
set_option maxRecDepth 100000 in
set_option maxHeartbeats 8000000 in
theorem fact_any (w : World) (hks : KsAt kindsS w) (h0 : 0 < w.heap.size) : Calls Tryz.prog 11 #[] w fun e w' => e = .returned (.bool true) ∧ Below w.heap.size w w' := by
  have HN : Hid (Calls Tryz.prog 35 #[.agg #[.int .i64 100, .int .i64 100, .int .i64 0, .int .i64 0, .int .i64 0, .int .i64 0, .int .i64 0, .int .i64 0, .int .i64 0, .int .i64 0, .int .i64 0, .int .i64 0, .int .i64 0, .int .i64 0, .int .i64 0, .int .i64 0, .int .i64 0, .int .i64 0]] w fun e w' => ∃ g, e = .returned (.tuple #[.pointer (some ⟨g, 0, none⟩), .int .i64 0]) ∧ (∃ F : Nat → Prop, CeAt F g exS newC w' ∧ ∀ b, F b → w.heap.size ≤ b) ∧ Below w.heap.size w w') := Lib.hid ((CNew_any exS w).mono (by
    rintro e w' (⟨h1, _⟩ | ⟨_, g, h1, ⟨F, h2, h3⟩, h4⟩)
    · exact absurd exS_E h1
    · exact ⟨g, h1, ⟨F, h2, fun b hb => Nat.le_of_lt (h3 b hb)⟩, h4⟩))
  obtain ⟨cA, hcA⟩ : ∃ c, (stepP kindsS exS newC exA).1 = c := ⟨_, rfl⟩
  have hokA : CeOk cA := by rw [← hcA]; exact step_ok new_ok (by decide) kindsS exA
  have haccA : cA.acc < 20 := by have := step_acc (S := exS) new_ok (by decide) kindsS exA; rw [hcA] at this; have e : newC.acc = 0 := rfl; omega
  have hokB : CeOk (stepP kindsS exS cA exB).1 := step_ok hokA haccA kindsS exB
  have hfl : (stepP kindsS exS cA exB).1.fl = [newF exS newC exA] := by rw [← hcA]; exact ex3 kindsS
  have hcB : (stepP kindsS exS cA exB).2 = 15 := by rw [← hcA]; exact ex2 kindsS
  have HSA := Lib.hid (fun (g : Nat) (F : Nat → Prop) (W : World) (A : Option Addr) (c : Nat) (hc : CeAt F g exS newC W) (hF : ∀ b, F b → w.heap.size ≤ b) (hb : Below w.heap.size w W) (hT : TuA A 2 (stT 0 0 0 9) W) => (show Calls Tryz.prog 36 #[.pointer (some ⟨g, 0, none⟩), .agg #[.int .i64 0, .int .i64 0, .string ⟨#[65]⟩, .string ⟨#[69, 65, 83, 84]⟩, .string .empty, .slice A 2 c, .int .i64 0, .int .i64 0, .bool false]] W fun e w' => e = .returned (.int .i64 0) ∧ Below w.heap.size w w' ∧ ∃ F' : Nat → Prop, CeAt F' g exS cA w' ∧ ∀ b, F' b → w.heap.size ≤ b from
    (Step_low hc hF h0 hb.size new_ok exS_ok (by decide) exA A 2 c hT (by unfold maxLen; omega) (by decide) (by decide) (by decide) kindsS (hks.below hb h0) kindsS_ok).mono (by
      rintro e w' ⟨⟨h1, h2, F', h3, h4⟩, _⟩
      rw [ex1] at h1
      rw [hcA] at h3
      exact ⟨h1, hb.trans h2, F', h3, h4⟩)))
  have HSB := Lib.hid (fun (g : Nat) (F : Nat → Prop) (W : World) (A : Option Addr) (c : Nat) (hc : CeAt F g exS cA W) (hF : ∀ b, F b → w.heap.size ≤ b) (hb : Below w.heap.size w W) (hT : TuA A 2 (stT 50 0 5 20) W) => (show Calls Tryz.prog 36 #[.pointer (some ⟨g, 0, none⟩), .agg #[.int .i64 0, .int .i64 0, .string ⟨#[66]⟩, .string ⟨#[69, 65, 83, 84]⟩, .string .empty, .slice A 2 c, .int .i64 0, .int .i64 0, .bool false]] W fun e w' => e = .returned (.int .i64 15) ∧ Below w.heap.size w w' ∧ ∃ F' : Nat → Prop, CeAt F' g exS (stepP kindsS exS cA exB).1 w' ∧ ∀ b, F' b → w.heap.size ≤ b from
    (Step_low hc hF h0 hb.size hokA exS_ok haccA exB A 2 c hT (by unfold maxLen; omega) (by decide) (by decide) (by decide) kindsS (hks.below hb h0) kindsS_ok).mono (by
      rintro e w' ⟨⟨h1, h2, F', h3, h4⟩, _⟩
      rw [hcB] at h1
      exact ⟨h1, hb.trans h2, F', h3, h4⟩)))
  have HFl := Lib.hid (fun (g : Nat) (F : Nat → Prop) (W : World) (hc : CeAt F g exS (stepP kindsS exS cA exB).1 W) (hb : Below w.heap.size w W) => (show Calls Tryz.prog 14 #[.pointer (some ⟨g, 0, none⟩)] W fun e w' => ∃ b c : Nat, e = .returned (.slice (some ⟨b, 0, none⟩) 1 c) ∧ w'.cell? ⟨b, 0, none⟩ = some (.string ⟨#[65]⟩) ∧ (∃ la lc, w'.cell? ⟨b, 4, none⟩ = some (.slice la 1 lc)) ∧ Below w.heap.size w w' from by
    obtain ⟨y, hM⟩ := hc
    refine (Flights_any hM hokB).mono ?_
    rintro e w' ⟨v, rfl, ⟨xs, ts, hX⟩, h3⟩
    rw [hfl] at hX
    have hn := hX.n
    have ho := hX.own.1
    have hf := hX.fl 0 (by decide)
    obtain ⟨b, cap, hv, _, _⟩ := ho.form (by decide)
    have hv' : Value.slice v.A v.n v.c = .slice (some ⟨b, 0, none⟩) 1 cap := hv
    have ho' : w'.ownsRow 0 41 8 (.slice (some ⟨b, 0, none⟩) 1 cap) 1 (rowsV fmV xs) := by rw [← hv']; exact ho
    have hxl : 0 < xs.length := by rw [hX.xn]; decide
    have hcell : ∀ q, q < 8 → w'.cell? ⟨b, q, none⟩ = (fmV xs[0]!)[q]? := fun q hq => by
      have h5 := rowsV_at fmV_len xs 0 hxl q hq
      rw [Nat.zero_mul, Nat.zero_add] at h5
      rw [ho'.cellAt q (by omega), h5, getElem!_pos xs 0 hxl]
    refine ⟨b, cap, by rw [hv'], ?_, ⟨(xs[0]!).la, (xs[0]!).lc, ?_⟩, hb.trans (h3.mono hb.size)⟩
    · rw [hcell 0 (by decide)]
      show some (Value.string (xs[0]!).call) = _
      rw [hf.call]; rfl
    · rw [hcell 4 (by decide)]
      show some (Value.slice (xs[0]!).la (xs[0]!).ln (xs[0]!).lc) = _
      rw [hf.ln]; rfl))
  have HT := Lib.hid (fun (x y a b : Int) (W : World) => straight_any x y a b W)
  clear hcA hokA haccA hokB hfl hcB hks
  have tok : True := trivial
  go_enter Tryz.func11, Tryz.ntmps11
  go_upto_region 4 with (go_at_call 35; go_loud (refine HN.out.mono ?_; rintro e w1 ⟨g, rfl, ⟨F, hc1, hF1⟩, hb1⟩; have HC1 := Lib.hid hc1; have HF1 := Lib.hid hF1; have HB1 := Lib.hid hb1; clear hc1 hF1 hb1))
  go_upto_region 5 with (first
    | (go_at_call 38; go_loud (refine (HT.out 0 0 0 9 _).mono ?_; rintro e w2 ⟨⟨A2, c2, rfl, ht2⟩, hb2⟩; have HB2 := Lib.hid (HB1.out.trans (hb2.mono HB1.out.size)); have HT2 := Lib.hid ht2; have HC2 := Lib.hid (show CeAt F g exS newC w2 from HC1.out.elim fun y hy => ⟨y, hy.below hb2⟩); clear hb2 ht2))
    | (go_at_call 36; go_loud (refine (HSA.out g F _ A2 c2 HC2.out HF1.out HB2.out HT2.out).mono ?_; rintro e w3 ⟨rfl, hb3, F3, hc3, hF3⟩; have HB3 := Lib.hid hb3; have HC3 := Lib.hid hc3; have HF3 := Lib.hid hF3; clear hb3 hc3 hF3)))
  go_upto_region 6 with (first
    | (go_at_call 38; go_loud (refine (HT.out 50 0 5 20 _).mono ?_; rintro e w4 ⟨⟨A4, c4, rfl, ht4⟩, hb4⟩; have HB4 := Lib.hid (HB3.out.trans (hb4.mono HB3.out.size)); have HT4 := Lib.hid ht4; have HC4 := Lib.hid (show CeAt F3 g exS cA w4 from HC3.out.elim fun y hy => ⟨y, hy.below hb4⟩); clear hb4 ht4))
    | (go_at_call 36; go_loud (refine (HSB.out g F3 _ A4 c4 HC4.out HF3.out HB4.out HT4.out).mono ?_; rintro e w5 ⟨rfl, hb5, F5, hc5, hF5⟩; have HB5 := Lib.hid hb5; have HC5 := Lib.hid hc5; have HF5 := Lib.hid hF5; clear hb5 hc5 hF5)))
  go_wp2_with (go_at_call 14; go_loud (refine (HFl.out g F5 _ HC5.out HB5.out).mono ?_; rintro e w6 ⟨b6, c6, rfl, k0, ⟨la, lc, k4⟩, hb6⟩; have HB6 := Lib.hid hb6; clear hb6))
  go_ret
  exact ⟨rfl, HB6.out⟩
end Go.Proofs.YtjmdcpcoliljfaaGreatDoor

/- Inputs in memory; a centre that is given inputs, one after the other. -/
namespace Go.Proofs.YtjmdcpcoliljfaaGreatDoor
open Go.RowKit

def inV (x : Inp) (h : Hd) : List Value := [.int .i64 x.kind, .int .i64 x.time, .string x.call, .string x.by_, .string x.to_, .slice h.A h.n h.c, .int .i64 x.wake, .int .i64 x.slot, .bool x.lands]
theorem inV_len (x : Inp) (h : Hd) : (inV x h).length = 9 := rfl
/-- An input's texts and tube are not too long. -/
structure InB (x : Inp) : Prop where
  call : x.call.size ≤ maxLen
  by_ : x.by_.size ≤ maxLen
  to_ : x.to_.size ≤ maxLen
  tube : x.tube.length ≤ maxLen
/-- A tube whose block lies below N. -/
def TuN (N : Nat) (h : Hd) (l : Tu) (w : World) : Prop := l.length = h.n ∧ Sl w N 6 h.A h.n (fun i => ndV l[i]!)
theorem TuN.tua {N : Nat} {h : Hd} {l : Tu} {w : World} (k : TuN N h l w) (hN : N ≤ w.heap.size) : TuA h.A h.n l w := ⟨k.1, k.2.more hN⟩
theorem TuN.below {N : Nat} {h : Hd} {l : Tu} {w w' : World} (k : TuN N h l w) (hb : Below N w w') : TuN N h l w' := ⟨k.1, k.2.below hb⟩
/-- A row of inputs below N. -/
structure InsA (N : Nat) (A : Option Addr) (n : Nat) (l : List Inp) (hs : List Hd) (w : World) : Prop where
  ln : l.length = n
  hn : hs.length = n
  row : Sl w N 9 A n (fun i => inV l[i]! hs[i]!)
  tube : ∀ i, i < n → TuN N hs[i]! (l[i]!).tube w
  bd : ∀ i, i < n → InB l[i]!
theorem InsA.below {N n : Nat} {A : Option Addr} {l : List Inp} {hs : List Hd} {w w' : World} (k : InsA N A n l hs w) (hb : Below N w w') : InsA N A n l hs w' :=
  ⟨k.ln, k.hn, k.row.below hb, fun i hi => (k.tube i hi).below hb, k.bd⟩
theorem Kept.mid {F : Nat → Prop} {N1 : Nat} {w w' : World} (hs : w.heap.size ≤ w'.heap.size) (h : ∀ k, N1 ≤ k → k < w.heap.size → w'.heap[k]? = w.heap[k]?) (hF : ∀ b, F b → N1 ≤ b) : Kept F w w' := ⟨hs, fun k hk hf => h k (hF k hf) hk⟩

theorem suE_ok {S : Su} (h : suE S = 0) : SuOk S := by
  unfold suE setE at h
  by_cases h1 : sepE S.lat S.vert ≠ 0
  · rw [if_pos h1] at h; exact absurd h h1
  rw [if_neg h1] at h
  by_cases h2 : gapsOkB S.g = true
  · have h3 := gapsOkB_iff.1 h2
    have h4 : 0 ≤ S.lat ∧ S.lat ≤ 1000000 ∧ 0 ≤ S.vert ∧ S.vert ≤ 60000 := by
      unfold sepE at h1
      by_cases h5 : 0 ≤ S.lat ∧ S.lat ≤ 1000000 ∧ 0 ≤ S.vert ∧ S.vert ≤ 60000
      · exact h5
      · exfalso; apply h1; simp_all
    exact ⟨⟨h4.1, h4.2.1⟩, h4.2.2, fun i hi => by have := h3 i hi; unfold gapOk at this; exact this⟩
  · rw [if_neg h2] at h; cases h

theorem takeIn {A : Option Addr} {c : Nat} (n q : Nat) (hq : q ≤ n) (hn : n ≤ c) (hc : c ≤ maxLen) (hnil : A = none → n = 0 ∧ c = 0) : ∃ A2 c2, (∀ W, (Instr.slice 28 (.slice A n c) none (some (.int .i64 (q : Int))) none).run Tryz.prog W = .ok (.slice A2 q c2) W) ∧ (0 < q → A2 = A) := by
  unfold maxLen at hc
  have h0 : (0 : Int) ≤ (q : Int) := by omega
  have h1 : (q : Int) ≤ (n : Int) := by omega
  have h2 : (n : Int) ≤ (c : Int) := by omega
  have h3 : (q : Int) ≤ (c : Int) := by omega
  have c23 : Tryz.prog.cellsOf 35 = 9 := by kernel_rfl
  cases A with
  | none =>
    obtain ⟨rfl, rfl⟩ := hnil rfl
    obtain rfl : q = 0 := by omega
    refine ⟨none, 0, fun W => ?_, fun h => absurd h (by omega)⟩
    go_simp
  | some a =>
    refine ⟨if c = 0 then some a else some (a.add (0 * 9)), c, fun W => ?_, fun hq0 => ?_⟩
    · go_simp
    · rw [if_neg (by omega)]; simp [Addr.add]
theorem call_enter {P : Program} {f : FuncId} {fn : Func} {c : Code} (hf : P.funcs[f]? = some fn) (hname : (fn.name == "runtime.NumGoroutine") = false) (hb : fn.body = some c) (args : Array Value) (w : World) :
    (callFunc f args).run P w = .ok (.enter f args) w := by
  have h1 : fn.name ≠ "runtime.NumGoroutine" := by simpa using hname
  simp [callFunc, hf, h1, hb]
/-- What stays when the function given to run is called: all below N and all that was made since. -/
structure Mid (N N1 : Nat) (w w' : World) : Prop where
  b : Below N w w'
  m : ∀ k, N1 ≤ k → k < w.heap.size → w'.heap[k]? = w.heap[k]?
theorem Mid.of_below {N N1 : Nat} {w w' : World} (h : Below w.heap.size w w') (hN : N ≤ w.heap.size) : Mid N N1 w w' := ⟨h.mono hN, fun k _ hk => h.block k hk⟩
/-- A function of the program. -/
def FunOk (f : FuncId) : Prop := ∃ (fn : Func) (c : Code), Tryz.prog.funcs[f]? = some fn ∧ (fn.name == "runtime.NumGoroutine") = false ∧ fn.body = some c
/-- What run wants of its function fn, with the captured variables caps: J is what holds behind k inputs. -/
def RunF (ks : Nat → ByteArray) (S : Su) (l : List Inp) (hs : List Hd) (N N1 m fn : Nat) (caps : Array Value) (J : Nat → Ce → (Nat → Prop) → World → Prop) : Prop :=
  ∀ (k : Nat) (c : Ce) (F F' : Nat → Prop) (g : Nat) (wa wb : World), k < m → SuOk S → CeOk c → c.acc ≤ k → J k c F wa → (∀ b, F b → N1 ≤ b) → (∀ b, F' b → N1 ≤ b) → N1 ≤ wa.heap.size → Below N wa wb → CeAt F' g S (stepP ks S c l[k]!).1 wb → Off F wa wb → (∀ b, F' b → F b ∨ wa.heap.size ≤ b) →
  TuA (hs[k]!).A (hs[k]!).n (l[k]!).tube wb →
  Calls Tryz.prog fn (#[.pointer (some ⟨g, 0, none⟩), inpV l[k]! (hs[k]!).A (hs[k]!).n (hs[k]!).c, .int .i64 (stepP ks S c l[k]!).2] ++ caps) wb fun e w' =>
    e = .returned (.bool true) ∧ Mid N N1 wb w' ∧ J (k + 1) (stepP ks S c l[k]!).1 F' w'
/-- What run leaves. -/
def RunP (S : Su) (N m : Nat) (J : Nat → Ce → (Nat → Prop) → World → Prop) (w : World) (e : Ending) (w' : World) : Prop :=
  e = .returned (.bool true) ∧ Below N w w' ∧ (suE S = 0 → ∃ c F, CeOk c ∧ J m c F w')
set_option maxRecDepth 100000 in
set_option maxHeartbeats 16000000 in
theorem run_any (S : Su) (l : List Inp) (hs : List Hd) (N n m : Nat) (A : Option Addr) (cA fn : Nat) (caps : Array Value) (J : Nat → Ce → (Nat → Prop) → World → Prop) (w : World) (ks : Nat → ByteArray)
    (hks : KsAt ks w) (hko : KsOk ks) (hN0 : 0 < N) (hN : N ≤ w.heap.size) (hm : m = min n 14) (hI : InsA N A n l hs w) (hcap : n ≤ cA ∧ cA ≤ maxLen) (hnil : A = none → n = 0 ∧ cA = 0)
    (hJb : ∀ k c F W W', J k c F W → Below W.heap.size W W' → J k c F W') (hJ0 : ∀ F W, Below w.heap.size w W → (∀ b, F b → w.heap.size ≤ b) → J 0 newC F W)
    (hfn : FunOk fn) (hF : RunF ks S l hs N w.heap.size m fn caps J) :
    Calls Tryz.prog 12 #[suA S, .slice A n cA, .func (.func fn) #[] caps] w (RunP S N m J w) := by
  have HN := Lib.hid (fun (W : World) => CNew_any S W)
  have HCk := Lib.hid (fun (W : World) => CCheck_any S.lat S.vert S.g W)
  obtain ⟨V, hV⟩ : ∃ V, w.alloc (suO S) = V := ⟨_, rfl⟩
  have hbV : Below w.heap.size w V := by rw [← hV]; exact (Below.refl _ _).alloc (Nat.le_refl _) _
  have hzV : V.heap.size = w.heap.size + 1 := by rw [← hV, size_al]
  have hgB : V.heap[w.heap.size]? = some (suO S) := by rw [← hV]; exact heap_alloc_new _ _
  unfold suO at hV hgB
  have HGB := Lib.hid hgB
  have HBV := Lib.hid hbV
  have HKS := Lib.hid hks
  have HKO := Lib.hid hko
  have HI := Lib.hid hI
  have HJB := Lib.hid hJb
  have HJ0 := Lib.hid hJ0
  have HF := Lib.hid hF
  have HFun := Lib.hid hfn
  obtain ⟨R, hR⟩ : ∃ R, RunP S N m J w = R := ⟨_, rfl⟩
  have HRe := Lib.hid hR
  have HNs := Lib.hid hN
  have HN0 := Lib.hid hN0
  have HM := Lib.hid hm
  have HNil := Lib.hid hnil
  have HCap := Lib.hid hcap
  rw [hR]
  clear hgB hbV hks hko hI hJb hJ0 hF hfn hR hN0
  obtain ⟨k0, hk0⟩ : ∃ k, suE S = k := ⟨_, rfl⟩
  have HE := Lib.hid hk0
  have hk1 := hk0
  unfold suE at hk0
  rw [hk0] at HCk
  unfold suA at HN ⊢
  unfold setupA at HCk HN ⊢
  unfold NewP at HN
  rw [hk1] at HN
  clear hk0 hk1
  by_cases h0 : k0 = 0
  · subst h0
    have HN' := Lib.hid (fun (W : World) => (HN.out W).mono (by
      rintro e w' (⟨h1, _⟩ | ⟨_, g, h1, ⟨F, h2, h3⟩, h4⟩)
      · exact absurd rfl h1
      · exact ⟨g, h1, ⟨F, h2, h3⟩, h4⟩ : ∀ e w', _ → ∃ g, e = .returned (.tuple #[.pointer (some ⟨g, 0, none⟩), .int .i64 0]) ∧ (∃ F : Nat → Prop, CeAt F g S newC w' ∧ ∀ b, F b → W.heap.size < b) ∧ Below W.heap.size W w'))
    clear HN HCk
    go_enter Tryz.func12, Tryz.ntmps12
    go_upto_region 6 with (first
      | (first | (refine wpList_load_row rfl 27 _ rfl w.heap.size rfl 27 _ (0, 0) _ HGB.out Tryz.underlying27 rfl (by kernel_rfl) ?_) | (refine wpList_load_row_w 27 _ rfl w.heap.size rfl rfl 27 _ (0, 0) _ HGB.out Tryz.underlying27 rfl (by kernel_rfl) ?_))
      | (go_at_call 35; go_loud (refine (HN'.out _).mono ?_; rintro e w1 ⟨g, rfl, ⟨F, hc1, hF1⟩, hb1⟩; have HC1 := Lib.hid hc1; have HF1 := Lib.hid hF1; have HB1 := Lib.hid hb1; clear hc1 hF1 hb1)))
    have hz1 : w.heap.size < w1.heap.size := by have := HB1.out.size; omega
    have hN1 : Below N w w1 := (HBV.out.mono hN).trans (HB1.out.mono (by omega))
    have HN1 := Lib.hid hN1
    have hm14 : m ≤ 14 := by rw [HM.out]; omega
    have hmn : m ≤ n := by rw [HM.out]; omega
    have hmi : min (n : Int) 14 = (m : Int) := by rw [HM.out]; omega
    obtain ⟨A2, c2, hsl, hA2⟩ := takeIn (A := A) (c := cA) n m hmn HCap.out.1 HCap.out.2 HNil.out
    clear hm hN1 hcap hnil
    go_upto_region 7 with (fail)
    have hks1 := HKS.out
    go_loopw [34] (fun s wr => ∃ (k : Nat) (c : Ce) (F : Nat → Prop), k ≤ m ∧ s = .int .i64 (k : Int) ∧ Hid (CeAt F g S c wr ∧ CeOk c ∧ c.acc ≤ k) ∧ Hid (J k c F wr) ∧ Hid (∀ b, F b → w.heap.size ≤ b) ∧ Hid (Below N w wr ∧ w1.heap.size ≤ wr.heap.size)) (fun s _ => m - (intOf s).toNat)
    case atStart =>
      refine ⟨0, newC, F, by omega, rfl, Lib.hid ⟨HC1.out, new_ok, by decide⟩, Lib.hid (HJ0.out F w1 (HBV.out.trans (HB1.out.mono (by omega))) (fun b hb => by have := HF1.out b hb; omega)), Lib.hid (fun b hb => by have := HF1.out b hb; omega), Lib.hid ⟨HN1.out, Nat.le_refl _⟩⟩
    case round =>
      obtain ⟨k, c, F2, hk, rfl, HC, HJ, HFb, HB⟩ := hrel
      obtain ⟨wo, hwo⟩ : ∃ wo : World, wo = wr := ⟨_, rfl⟩
      subst hwo
      have hzr := HB.out.2
      by_cases hlt : k < m
      · have l0 : (0 : Int) ≤ (k : Int) := by omega
        have l1 : (k : Int) < (m : Int) := by omega
        have hkw : IntKind.i64.wrap ((k : Int) + 1) = (k : Int) + 1 := IntWalk.i64_in _ (by omega)
        have hkn : k < n := by omega
        have HIw := Lib.hid (HI.out.below HB.out.1)
        obtain ⟨b, off, hA, hbN, hrow⟩ := HIw.out.row (by omega)
        have hA2' := hA2 (by omega)
        rw [hA] at hA2'
        subst hA2'
        have hr : ∀ j v, (inV l[k]! hs[k]!)[j]? = some v → wo.cell? ⟨b, off + k * 9 + j, none⟩ = some v := hrow k hkn
        obtain ⟨x, hx⟩ : ∃ x, l[k]! = x := ⟨_, rfl⟩
        obtain ⟨⟨tA, tn, tc⟩, hh⟩ : ∃ h, hs[k]! = h := ⟨_, rfl⟩
        have HX := Lib.hid hx
        have HH := Lib.hid hh
        rw [hx, hh] at hr
        have q0 := hr 0 _ rfl
        have q1 := hr 1 _ rfl
        have q2 := hr 2 _ rfl
        have q3 := hr 3 _ rfl
        have q4 := hr 4 _ rfl
        have q5 := hr 5 _ rfl
        have q6 := hr 6 _ rfl
        have q7 := hr 7 _ rfl
        have q8 := hr 8 _ rfl
        simp only [Nat.add_zero] at q0
        clear hr hrow hx hh hks1
        go_upto_region 9 with (fail)
        obtain ⟨w8, hw8⟩ : ∃ W, wo.alloc (.cells #[.int .i64 x.kind, .int .i64 x.time, .string x.call, .string x.by_, .string x.to_, .slice tA tn tc, .int .i64 x.wake, .int .i64 x.slot, .bool x.lands] 35) = W := ⟨_, rfl⟩
        have hb8 : Below wo.heap.size wo w8 := by rw [← hw8]; exact (Below.refl _ _).alloc (Nat.le_refl _) _
        have hB8 : w8.heap[wo.heap.size]? = some (.cells #[.int .i64 x.kind, .int .i64 x.time, .string x.call, .string x.by_, .string x.to_, .slice tA tn tc, .int .i64 x.wake, .int .i64 x.slot, .bool x.lands] 35) := by rw [← hw8]; exact heap_alloc_new _ _
        have hz8 : w8.heap.size = wo.heap.size + 1 := by rw [← hw8, size_al]
        rw [hw8]
        clear hw8 q0 q1 q2 q3 q4 q5 q6 q7 q8
        have hSO : SuOk S := suE_ok HE.out
        have hzw : w.heap.size ≤ w8.heap.size := by omega
        have hNw : Below N w w8 := HB.out.1.trans (hb8.mono (by omega))
        have hC8 : CeAt F2 g S c w8.drew := HC.out.1.elim fun y hy => ⟨y, hy.below hb8.drew⟩
        have hxF : ¬ F2 wo.heap.size := fun h => by obtain ⟨y, hy⟩ := HC.out.1; have := hy.bd _ h; omega
        have hT8 : TuA tA tn x.tube w8.drew := by have := (HI.out.below hNw.drew).tube k hkn; rw [HX.out, HH.out] at this; exact this.tua (by show N ≤ w8.heap.size; omega)
        have hBx : InB x := by have := HI.out.bd k hkn; rw [HX.out] at this; exact this
        have h20 : c.acc < 20 := by have := HC.out.2.2; omega
        have htn : tn ≤ maxLen := by rw [← hT8.1]; exact hBx.tube
        have HSt := Lib.hid (Step_low (N := w.heap.size) (w := w8.drew) hC8 HFb.out (by have := HN0.out; omega) hzw HC.out.2.1 hSO h20 x tA tn tc hT8 htn hBx.call hBx.by_ hBx.to_ ks (HKS.out.below hNw.drew HN0.out) HKO.out)
        have HCl := Lib.hid (fun (w9 : World) (F3 : Nat → Prop) (h1 : CeAt F3 g S (stepP ks S c x).1 w9) (h2 : ∀ b, F3 b → w.heap.size ≤ b) (h3 : Off F2 w8 w9) (h4 : ∀ b, F3 b → F2 b ∨ w8.heap.size ≤ b) (h5 : Below w.heap.size w8 w9) => (by
          have h := HF.out k c F2 F3 g w8 w9 hlt hSO HC.out.2.1 HC.out.2.2 (HJB.out k c F2 wo w8 HJ.out hb8) HFb.out h2 hzw (h5.mono HNs.out) (by rw [HX.out]; exact h1) h3 h4
          rw [HX.out, HH.out] at h
          exact h ((HI.out.below (hNw.trans (h5.mono HNs.out))).tube k hkn |> fun t => by rw [HX.out, HH.out] at t; exact t.tua (by have := h5.size; show N ≤ w9.heap.size; omega))))
        have hokc : CeOk (stepP ks S c x).1 := step_ok HC.out.2.1 h20 ks x
        have hacc : (stepP ks S c x).1.acc ≤ k + 1 := by have := step_acc (S := S) HC.out.2.1 h20 ks x; have := HC.out.2.2; omega
        obtain ⟨⟨c3, kk⟩, hst⟩ : ∃ r, stepP ks S c x = r := ⟨_, rfl⟩
        rw [hst] at HSt HCl hokc hacc
        dsimp only at HCl hokc hacc
        unfold inpV at HSt HCl
        have HOK := Lib.hid hokc
        have HAC := Lib.hid hacc
        have HXF := Lib.hid hxF
        have HB8 := Lib.hid hB8
        have HNW := Lib.hid hNw
        clear hst hokc hacc hC8 hT8 hBx htn hSO hxF hB8 hNw
        refine wp_region_held_drew (S := (fun W => W.heap[wo.heap.size]? = some (.cells #[.int .i64 x.kind, .int .i64 x.time, .string x.call, .string x.by_, .string x.to_, .slice tA tn tc, .int .i64 x.wake, .int .i64 x.slot, .bool x.lands] 35))) (by kernel_rfl) HB8.out (fun hHeld => ?_)
        refine wpAnyH_take (i := 0) (oi := ⟨some 38, _, _, _, _, _⟩) (v := ?u0) rfl (by kernel_rfl) (by kernel_rfl) (by kernel_rfl) (fun _ _ _ h => h) (Or.inl ⟨by rfl, ?p0⟩) hHeld ?q0
        case p0 => (intro W hSw; go_simp; try with_reducible rfl)
        try simp only [Act.put, List.setIfInBounds_toArray, List.set_cons_zero, List.set_cons_succ]
        refine wpAnyH_take (i := 1) (oi := ⟨some 39, _, _, _, _, _⟩) (v := ?u1) rfl (by kernel_rfl) (by kernel_rfl) (by kernel_rfl) (fun _ _ _ h => h) (Or.inl ⟨by rfl, ?p1⟩) hHeld ?q1
        case p1 => (intro W hSw; go_simp; try with_reducible rfl)
        try simp only [Act.put, List.setIfInBounds_toArray, List.set_cons_zero, List.set_cons_succ]
        refine wpAnyH_take (i := 2) (oi := ⟨some 40, _, _, _, _, _⟩) (v := ?u2) rfl (by kernel_rfl) (by kernel_rfl) (by kernel_rfl) (fun _ _ _ h => h) (Or.inl ⟨by rfl, ?p2⟩) hHeld ?q2
        case p2 => (intro W hSw; refine run_exec_row (P := Tryz.prog) 35 (.tmp 10) ?_ wo.heap.size ?_ 35 _ (0, 0) _ hSw Tryz.underlying35 rfl (by kernel_rfl) <;> rfl)
        try simp only [Act.put, List.setIfInBounds_toArray, List.set_cons_zero, List.set_cons_succ]
        refine wpAnyH_take (i := 3) (oi := ⟨some 41, _, _, _, _, _⟩) (v := ?u3) rfl (by kernel_rfl) (by kernel_rfl) (by kernel_rfl) (fun _ _ _ h => h) (Or.inl ⟨by rfl, ?p3⟩) hHeld ?q3
        case p3 => (intro W hSw; go_simp; try with_reducible rfl)
        try simp only [Act.put, List.setIfInBounds_toArray, List.set_cons_zero, List.set_cons_succ]
        refine wpAnyH_take (i := 4) (oi := ⟨some 42, _, _, _, _, _⟩) (v := ?u4) rfl (by kernel_rfl) (by kernel_rfl) (by kernel_rfl) (fun _ _ _ h => h) (Or.inl ⟨by rfl, ?p4⟩) hHeld ?q4
        case p4 => (intro W hSw; refine run_exec_row (P := Tryz.prog) 35 (.tmp 10) ?_ wo.heap.size ?_ 35 _ (0, 0) _ hSw Tryz.underlying35 rfl (by kernel_rfl) <;> rfl)
        try simp only [Act.put, List.setIfInBounds_toArray, List.set_cons_zero, List.set_cons_succ]
        refine wpAnyH_ready (rs := [5]) (by kernel_rfl) (by simp) ?_
        refine (AllReadyH.cons (o := ⟨some 43, _, _, _, _, _⟩) rfl (fun K hK => ?_) AllReadyH.nil)
        go_simp
        go_at_call 36
        (with_reducible refine HSt.out.mono ?_)
        rintro e w9 ⟨⟨rfl, hb9, _⟩, hof9, F3, hc9, hs9⟩
        have hof9 : Off F2 w8 w9 := ⟨hof9.os, hof9.tape, hof9.output, hof9.size, hof9.block⟩
        have hb9 : Below w.heap.size w8 w9 := ⟨hb9.os, hb9.tape, hb9.output, hb9.size, hb9.block⟩
        have hx9 := (hof9.block wo.heap.size (by show _ < w8.heap.size; omega) HXF.out).trans HB8.out
        have HB9 := Lib.hid hb9
        have HC9 := Lib.hid hc9
        have HX9 := Lib.hid hx9
        have hF9 : ∀ b, F3 b → w.heap.size ≤ b := fun b hb => (hs9 b hb).elim (HFb.out b) (fun h => by have h : w8.heap.size ≤ b := h; omega)
        have HF9 := Lib.hid hF9
        have HCq := Lib.hid (HCl.out w9 F3 hc9 hF9 hof9 hs9 hb9)
        clear HCl hof9 hc9 hs9 hF9 hb9
        refine hK.out _ _ hx9 (fun hHeld => ?_)
        clear hK K hx9
        try simp only [Act.put]
        refine wpAnyH_ready (rs := [6]) (by kernel_rfl) (by simp) ?_
        refine (AllReadyH.cons (o := ⟨some 44, _, _, _, _, _⟩) rfl (fun K hK => ?_) AllReadyH.nil)
        go_simp
        obtain ⟨fnF, fnC, e1, e2, e3⟩ := HFun.out
        rw [call_enter e1 e2 e3]
        clear e1 e2 e3
        show Calls Tryz.prog fn _ w9 _
        refine HCq.out.mono ?_
        rintro e w10 ⟨rfl, hmid, hJ10⟩
        have HMid := Lib.hid hmid
        have HJ10 := Lib.hid hJ10
        have hx10 := (hmid.m wo.heap.size (by omega) (Array.getElem?_eq_some_iff.1 HX9.out).1).trans HX9.out
        clear hmid hJ10
        go_simp
        refine hK.out _ _ hx10 (fun hHeld => ?_)
        clear hK K
        try simp only [Act.put, List.setIfInBounds_toArray, List.set_cons_zero, List.set_cons_succ]
        refine wpAnyH_ready (rs := [7]) (by kernel_rfl) (by simp) ?_
        refine (AllReadyH.cons (o := ⟨some 45, _, _, _, _, _⟩) rfl (fun K hK => ?_) AllReadyH.nil)
        go_simp
        refine hK.out _ _ hx10 (fun hHeld => ?_)
        clear hK K hx10
        try simp only [Act.put, List.setIfInBounds_toArray, List.set_cons_zero, List.set_cons_succ]
        refine wpAnyH_done (by kernel_rfl) ?_ _
        go_wp2_with fail
        go_roundw
        case rel =>
          have hM := HMid.out
          have h9 := HB9.out.size
          have h10 := hM.b.size
          refine ⟨_, _, _, ⟨k + 1, by omega, rfl, c3, F3, Lib.hid ⟨HC9.out.elim fun y hy => ⟨y, hy.kept (.mid h10 hM.m HF9.out)⟩, HOK.out, HAC.out⟩, HJ10, HF9, Lib.hid ⟨(HNW.out.trans (HB9.out.mono HNs.out)).trans hM.b, by omega⟩⟩, rfl, rfl, by go_num⟩
        case measure => simp [intOf]; omega
      · obtain rfl : m = k := by omega
        have HR : Hid (R (.returned (.bool true)) wo) := Lib.hid (by rw [← HRe.out]; exact ⟨rfl, HB.out.1, fun _ => ⟨c, F2, HC.out.2.1, HJ.out⟩⟩)
        go_wp2
        (try go_ret)
        exact HR.out
  · have eb : (k0 != 0) = true := by simpa using h0
    have ek : (k0 == k0) = true := by simp
    have HN' := Lib.hid (fun (W : World) => (HN.out W).mono (by
      rintro e w' (⟨_, h1, h2⟩ | ⟨h1, _⟩)
      · exact ⟨h1, h2⟩
      · exact absurd h1 h0 : ∀ e w', _ → e = .returned (.tuple #[.pointer none, .int .i64 k0]) ∧ Below W.heap.size W w'))
    clear HN
    go_enter Tryz.func12, Tryz.ntmps12
    go_wp2_with (first
      | (first | (refine wpList_load_row rfl 27 _ rfl w.heap.size rfl 27 _ (0, 0) _ (by first | exact HGB.out | exact HGB1.out) Tryz.underlying27 rfl (by kernel_rfl) ?_) | (refine wpList_load_row_w 27 _ rfl w.heap.size rfl rfl 27 _ (0, 0) _ (by first | exact HGB.out | exact HGB1.out) Tryz.underlying27 rfl (by kernel_rfl) ?_))
      | (go_at_call 35; go_loud (refine (HN'.out _).mono ?_; rintro e w1 ⟨rfl, hb1⟩; have HGB1 := Lib.hid ((hb1.block w.heap.size (by omega)).trans HGB.out); have HB1 := Lib.hid hb1; clear hb1))
      | (go_at_call 39; go_loud (refine (HCk.out _).mono ?_; rintro e w2 ⟨rfl, hb2⟩; have HB2 := Lib.hid hb2; clear hb2)))
    have hz1 := HB1.out.size
    have HR : Hid (R (.returned (.bool true)) w2) := Lib.hid (by
      rw [← HRe.out]
      exact ⟨rfl, ((HBV.out.mono HNs.out).trans (HB1.out.mono (by omega))).trans (HB2.out.mono (by omega)), fun h => absurd (HE.out.symm.trans h) h0⟩)
    (try go_ret)
    exact HR.out
end Go.Proofs.YtjmdcpcoliljfaaGreatDoor

/- CentreOwned: the walk. -/
namespace Go.Proofs.YtjmdcpcoliljfaaGreatDoor
open Go.RowKit

theorem fm_one (x : Fm) : ∀ u ∈ fmV x, u.oneCell' = true := fun u hu => by
  simp only [fmV, List.mem_cons, List.not_mem_nil, or_false] at hu
  rcases hu with rfl | rfl | rfl | rfl | rfl | rfl | rfl | rfl <;> rfl
set_option maxRecDepth 100000 in
theorem eq21_any (x : Fm) (o : Ow) (w : World) (h1 : x.call = o.call) (h2 : o.owner ≠ .empty) : Calls Tryz.prog 21 #[fmA x, owA o] w fun e w' => e = .returned (.bool true) ∧ Below w.heap.size w w' := by
  obtain ⟨xc, xw, xs, xl, la, ln, lc, na, nn, nc, ld, nl⟩ := x
  obtain ⟨oc, oo, of⟩ := o
  dsimp only at h1 h2
  subst h1
  unfold fmA owA
  have e1 : (xc.toList == xc.toList) = true := by simp
  have e2 : (oo.toList == ([] : List UInt8)) = false := by
    have : (oo.toList == ByteArray.empty.toList) = false := by rw [ba_beq]; exact decide_eq_false h2
    rw [show ByteArray.empty.toList = ([] : List UInt8) by rw [ByteArray.toList_eq]; rfl] at this
    exact this
  go_enter Tryz.func21, Tryz.ntmps21
  go_wp2
  go_ret
  exact ⟨rfl, ((Below.refl _ _).alloc (Nat.le_refl _) _).alloc (by simp) _⟩

/-- Rows read out of a copy. -/
theorem CpX.sl {F : Nat → Prop} {v : Hd} {xs : List Fm} {ts : List (List Hd)} {fl : List Fl} {w : World} (h : CpX F v xs ts fl w) : Sl w w.heap.size 8 v.A v.n (fun i => fmV xs[i]!) := by
  have h3 := h.own.1
  unfold Hd.v at h3
  rw [← h.n] at h3
  exact Sl_rows fmV_len h3 (by rw [h.xn, h.n]) (by decide)
set_option maxRecDepth 100000 in
set_option maxHeartbeats 8000000 in
theorem eq19_any (v : Hd) (xs : List Fm) (A : Option Addr) (n c : Nat) (l : List Ow) (w : World) (hX : Sl w w.heap.size 8 v.A n (fun i => fmV xs[i]!)) (hvn : v.n = n) (hO : OwA A n l w) (hn : n ≤ 24)
    (hc : ∀ i, i < n → (xs[i]!).call = (l[i]!).call) (hw : ∀ i, i < n → (l[i]!).owner ≠ .empty) :
    Calls Tryz.prog 19 #[.slice v.A v.n v.c, .slice A n c, .func (.func 21) #[] #[]] w fun e w' => e = .returned (.bool true) ∧ Below w.heap.size w w' := by
  obtain ⟨vA, vn, vc⟩ := v
  dsimp only at hX hvn ⊢
  subst hvn
  have HX := Lib.hid hX
  have HO := Lib.hid hO.2
  have HC := Lib.hid hc
  have HW := Lib.hid hw
  clear hX hO hc hw
  go_enter Tryz.func19, Tryz.ntmps19
  go_wp2
  go_loopw [17] (fun s wr => ∃ i : Nat, i ≤ vn ∧ s = .int .i64 (i : Int) ∧ Hid (Below w.heap.size w wr)) (fun s _ => vn - (intOf s).toNat)
  case atStart => exact ⟨0, by omega, rfl, Lib.hid (Below.refl _ _)⟩
  case round =>
    obtain ⟨i, hi, rfl, HB⟩ := hrel
    obtain ⟨wo, hwo⟩ : ∃ wo : World, wo = wr := ⟨_, rfl⟩
    subst hwo
    have hzr := HB.out.size
    by_cases hlt : i < vn
    · have l0 : (0 : Int) ≤ (i : Int) := by omega
      have l1 : (i : Int) < (vn : Int) := by omega
      have hiw : IntKind.i64.wrap ((i : Int) + 1) = (i : Int) + 1 := IntWalk.i64_in _ (by omega)
      obtain ⟨b, off, hA, hb, hr⟩ := (HX.out.below HB.out) (by omega)
      obtain ⟨b2, off2, hA2, hb2, hr2⟩ := (HO.out.below HB.out) (by omega)
      subst hA
      subst hA2
      have r1 : ∀ j u, (fmV xs[i]!)[j]? = some u → wo.cell? ⟨b, off + i * 8 + j, none⟩ = some u := hr i hlt
      have r2 : ∀ j u, (owV l[i]!)[j]? = some u → wo.cell? ⟨b2, off2 + i * 3 + j, none⟩ = some u := hr2 i hlt
      have HE := Lib.hid (fun (W : World) => eq21_any xs[i]! l[i]! W (HC.out i hlt) (HW.out i hlt))
      unfold fmA owA at HE
      generalize xs[i]! = x at r1 HE
      generalize l[i]! = o0 at r2 HE
      have q0 := r1 0 _ rfl
      have q1 := r1 1 _ rfl
      have q2 := r1 2 _ rfl
      have q3 := r1 3 _ rfl
      have q4 := r1 4 _ rfl
      have q5 := r1 5 _ rfl
      have q6 := r1 6 _ rfl
      have q7 := r1 7 _ rfl
      have p0 := r2 0 _ rfl
      have p1 := r2 1 _ rfl
      have p2 := r2 2 _ rfl
      simp only [Nat.add_zero] at q0 p0
      have n1 : b ≠ wo.heap.size := by omega
      have n2 : b2 ≠ wo.heap.size := by omega
      clear r1 r2 hr hr2
      have hb2' : b2 < wo.heap.size := by omega
      have s0 : ∀ o, (wo.alloc o).cell? ⟨b2, off2 + i * 3, none⟩ = some (.string o0.call) := fun o => (World.cell?_alloc_lt _ _ _ hb2').trans p0
      have s1 : ∀ o, (wo.alloc o).cell? ⟨b2, off2 + i * 3 + 1, none⟩ = some (.string o0.owner) := fun o => (World.cell?_alloc_lt _ _ _ hb2').trans p1
      have s2 : ∀ o, (wo.alloc o).cell? ⟨b2, off2 + i * 3 + 2, none⟩ = some (.string o0.off) := fun o => (World.cell?_alloc_lt _ _ _ hb2').trans p2
      go_wp2_with (go_at_call 21; go_loud (refine (HE.out _).mono ?_; rintro e w5 ⟨rfl, hb5⟩; have HB5 := Lib.hid hb5; clear hb5))
      go_roundw
      case rel => exact ⟨i + 1, by omega, by go_num, Lib.hid (((HB.out.alloc hzr _).alloc (by simp; omega) _).trans (HB5.out.mono (by simp; omega)))⟩
      case measure => simp [intOf]; omega
    · obtain rfl : vn = i := by omega
      go_wp2
      go_ret
      exact ⟨rfl, HB.out⟩
set_option maxRecDepth 100000 in
set_option maxHeartbeats 8000000 in
/-- The function given to run in CentreOwned. -/
theorem cl18_any {F : Nat → Prop} {g : Nat} {S : Su} {c : Ce} {w : World} (h : CeAt F g S c w) (hok : CeOk c) (x : Inp) (A : Option Addr) (n cA : Nat) (k : Int) :
    Calls Tryz.prog 18 #[.pointer (some ⟨g, 0, none⟩), inpV x A n cA, .int .i64 k] w fun e w' => e = .returned (.bool true) ∧ Below w.heap.size w w' := by
  obtain ⟨y, hM⟩ := h
  have HF := Lib.hid (fun (W : World) (hb : Below w.heap.size w W) => Flights_any (hM.below hb) hok)
  have HO := Lib.hid (fun (W : World) (hb : Below w.heap.size w W) => Owners_any (hM.below hb) hok)
  have h24 := hok.ow.n
  have hlen := hok.len
  have HE := Lib.hid (fun (W W2 : World) (v : Hd) (A : Option Addr) (cc : Nat) (h1 : CpM (fun k => w.heap.size ≤ k) v c.fl W) (hb : Below W.heap.size W W2) (h2 : OwnF (fun k => W.heap.size ≤ k) W2 57 3 (.slice A c.ow.length cc) c.ow.length (rowsV owV c.ow)) => (by
    obtain ⟨xs, ts, hX⟩ := h1
    have hX2 := hX.kept (.of_below hb)
    have hs := hX2.sl
    rw [hX2.n, hlen] at hs
    exact eq19_any v xs A c.ow.length cc c.ow W2 hs (hX2.n.trans hlen) ⟨rfl, Sl_rows owV_len h2.1 rfl (by decide)⟩ h24 (fun i hi => by
      have hif : i < c.fl.length := by omega
      rw [(hX2.fl i hif).call]
      have h2 := congrArg (fun l => l[i]?) hok.calls
      simp only [List.getElem?_map] at h2
      rw [List.getElem?_eq_getElem hif, List.getElem?_eq_getElem hi] at h2
      simp only [Option.map_some, Option.some.injEq] at h2
      rw [getElem!_pos c.fl i hif, getElem!_pos c.ow i hi, h2]) (fun i hi => name_ne (hok.ow.e i hi).owner)))
  clear hM hok h24 hlen
  unfold inpV
  have tok : True := trivial
  unfold OwCp at HO
  go_enter Tryz.func18, Tryz.ntmps18
  go_wp2_with (first
    | (go_at_call 14; go_loud (refine (HF.out _ ((Below.refl _ _).alloc (Nat.le_refl _) _)).mono ?_; rintro e w1 ⟨v, rfl, hc1, hb1⟩; have HC1 := Lib.hid hc1; have HB1 := Lib.hid (((Below.refl _ w).alloc (Nat.le_refl _) _).trans (hb1.mono (by simp))); clear hc1 hb1))
    | (go_at_call 20; go_loud (refine (HO.out _ HB1.out).mono ?_; rintro e w2 ⟨oA, oc, rfl, ho, hb2⟩; have HO2 := Lib.hid ho; have HB2 := Lib.hid hb2; clear ho hb2))
    | (go_at_call 19; go_loud (refine (HE.out w1 w2 v oA oc (HC1.out.mono (fun k hk => by have hk : _ ≤ k := hk; simp only [size_al] at hk; omega)) HB2.out HO2.out).mono ?_; rintro e w3 ⟨rfl, hb3⟩; have HB3 := Lib.hid hb3; clear hb3)))
  go_ret
  have h1 := HB1.out.size
  have h2 := HB2.out.size
  exact ⟨rfl, (HB1.out.trans (HB2.out.mono h1)).trans (HB3.out.mono (by omega))⟩
end Go.Proofs.YtjmdcpcoliljfaaGreatDoor

/- CentreOwned. -/
namespace Go.Proofs.YtjmdcpcoliljfaaGreatDoor
open Go.RowKit

/-- What a law's function asks of its arguments. -/
structure ArgOk (S : Su) (l : List Inp) (hs : List Hd) (A : Option Addr) (n cA : Nat) (w : World) : Prop where
  ks : KsAt kindsS w
  pos : 0 < w.heap.size
  ins : InsA w.heap.size A n l hs w
  cap : n ≤ cA ∧ cA ≤ maxLen
  nil : A = none → n = 0 ∧ cA = 0
theorem ArgOk.setup {S : Su} {w : World} : ∃ V, w.alloc (.cells #[.int .i64 S.lat, .int .i64 S.vert, .int .i64 (S.g 0), .int .i64 (S.g 1), .int .i64 (S.g 2), .int .i64 (S.g 3), .int .i64 (S.g 4), .int .i64 (S.g 5), .int .i64 (S.g 6), .int .i64 (S.g 7), .int .i64 (S.g 8), .int .i64 (S.g 9), .int .i64 (S.g 10), .int .i64 (S.g 11), .int .i64 (S.g 12), .int .i64 (S.g 13), .int .i64 (S.g 14), .int .i64 (S.g 15)] 27) = V ∧ Below w.heap.size w V ∧ V.heap.size = w.heap.size + 1 ∧
    V.heap[w.heap.size]? = some (.cells #[.int .i64 S.lat, .int .i64 S.vert, .int .i64 (S.g 0), .int .i64 (S.g 1), .int .i64 (S.g 2), .int .i64 (S.g 3), .int .i64 (S.g 4), .int .i64 (S.g 5), .int .i64 (S.g 6), .int .i64 (S.g 7), .int .i64 (S.g 8), .int .i64 (S.g 9), .int .i64 (S.g 10), .int .i64 (S.g 11), .int .i64 (S.g 12), .int .i64 (S.g 13), .int .i64 (S.g 14), .int .i64 (S.g 15)] 27) :=
  ⟨_, rfl, (Below.refl _ _).alloc (Nat.le_refl _) _, size_al _ _, heap_alloc_new _ _⟩
theorem run18 (S : Su) (l : List Inp) (hs : List Hd) (N N1 m : Nat) (hm : m ≤ 14) (hN : N ≤ N1) : RunF kindsS S l hs N N1 m 18 #[] (fun _ _ _ _ => True) := by
  intro k c F F' g wa wb hk hS hok hacc _ hF hF' hN1 hb hc hof _ _
  refine (cl18_any hc (step_ok hok (by omega) kindsS _) _ _ _ _ _).mono ?_
  rintro e w' ⟨h1, h2⟩
  exact ⟨h1, .of_below h2 (by have := hof.size; omega), trivial⟩
set_option maxRecDepth 100000 in
set_option maxHeartbeats 8000000 in
theorem owned_any (S : Su) (l : List Inp) (hs : List Hd) (A : Option Addr) (n cA : Nat) (w : World) (h : ArgOk S l hs A n cA w) :
    Calls Tryz.prog 5 #[suA S, .slice A n cA] w fun e w' => e = .returned (.bool true) ∧ Below w.heap.size w w' := by
  obtain ⟨V, hV, hbV, hzV, hgB⟩ := ArgOk.setup (S := S) (w := w)
  have HGB := Lib.hid hgB
  have HBV := Lib.hid hbV
  have HFa := Lib.hid (fact_any V (h.ks.below hbV h.pos) (by omega))
  have HR := Lib.hid (fun (W : World) (hb : Below V.heap.size V W) => (run_any S l hs w.heap.size n (min n 14) A cA 18 #[] (fun _ _ _ _ => True) W kindsS (h.ks.below (hbV.trans (hb.mono hbV.size)) h.pos) kindsS_ok h.pos (Nat.le_trans hbV.size hb.size) rfl (h.ins.below (hbV.trans (hb.mono hbV.size))) h.cap h.nil (fun _ _ _ _ _ _ _ => trivial) (fun _ _ _ _ => trivial) ⟨_, _, rfl, by kernel_rfl, rfl⟩ (run18 S l hs _ _ _ (by omega) (Nat.le_trans hbV.size hb.size))).mono fun e w' hh => (show e = .returned (.bool true) ∧ Below w.heap.size W w' from ⟨hh.1, hh.2.1⟩))
  unfold suA setupA at HR ⊢
  clear hbV hgB h
  have tok : True := trivial
  go_enter Tryz.func5, Tryz.ntmps5
  go_wp2_with (first
    | (first | (refine wpList_load_row rfl 27 _ rfl w.heap.size rfl 27 _ (0, 0) _ HG1.out Tryz.underlying27 rfl (by kernel_rfl) ?_) | (refine wpList_load_row_w 27 _ rfl w.heap.size rfl rfl 27 _ (0, 0) _ HG1.out Tryz.underlying27 rfl (by kernel_rfl) ?_))
    | (go_at_call 11; go_loud (refine HFa.out.mono ?_; rintro e w1 ⟨rfl, hb1⟩; have HG1 := Lib.hid ((hb1.block w.heap.size (by omega)).trans HGB.out); have HB1 := Lib.hid hb1; clear hb1))
    | (go_at_call 12; go_loud (refine (HR.out w1 HB1.out).mono ?_; rintro e w2 ⟨rfl, hb2⟩; have HB2 := Lib.hid hb2; clear hb2)))
  go_ret
  exact ⟨rfl, (HBV.out.trans (HB1.out.mono HBV.out.size)).trans HB2.out⟩
end Go.Proofs.YtjmdcpcoliljfaaGreatDoor

/- Opening the arguments of a law: slices of structs of one-cell fields; arrays of ints. -/
namespace Go.Proofs.YtjmdcpcoliljfaaGreatDoor
open Go.RowKit Go.ChangeShapes Go.WideShapes Go.Deep

section
variable {H : Type} {enc : TypeId × Value → H} {P : Program} {w : World} {base : Nat} {spare : Nat → Bool} {held : Bool}
theorem open_slice_fields {t e : TypeId} {fs : Array Field} {fuel : Nat} {cs : List Value} {x : DataW H × List MemPlace} (ht : P.underlying t = some (.slice e)) (he : P.underlying e = some (.struct fs))
    (hone : oneCellFields P fs = true) (hC : P.cellsOf e = fs.size) (h : DataW.trod enc P w base spare held fuel t cs = some x) :
    (cs = [.slice none 0 0] ∧ x = (.nil, [])) ∨
    ∃ (a : Addr) (len cap m : Nat) (D : Nat → DataW H) (Pl : Nat → List MemPlace), cs = [.slice (some a) len cap] ∧ base ≤ a.block ∧ len ≤ cap ∧ cap ≤ maxLen ∧ m = (if spare a.block then cap else len) ∧
      x = (.slice ((List.range len).map D) ((List.range (m - len)).map fun j => D (len + j)), MemPlace.row a (m * fs.size) ++ (List.range m).flatMap Pl) ∧
      ∀ i, i < m → ∃ (ys : List (DataW H × List MemPlace)) (n : Nat), D i = .agg (ys.map (·.1)) ∧ Pl i = ys.flatMap (·.2) ∧ ys.length = fs.size ∧
        ∀ (j : Nat) (f : Field), fs[j]? = some f → ∃ (v : Value) (y : DataW H × List MemPlace), w.cell? (a.add (i * fs.size + j)) = some v ∧ ys[j]? = some y ∧ DataW.trod enc P w base spare held n f.type [v] = some y := by
  rcases open_slice ht h with h0 | ⟨a, len, cap, m, n, D, Pl, hcs, hb, hl, hm, hmm, hx, hi⟩
  · exact .inl h0
  · refine .inr ⟨a, len, cap, m, D, Pl, hcs, hb, hl, hm, hmm, by rw [hC] at hx; exact hx, fun i him => ?_⟩
    obtain ⟨cs', hc, ht'⟩ := hi i him
    rw [hC] at hc
    obtain ⟨ys, n', hn', hy, hlen, hyl, hf⟩ := DataW.trod_struct he ht'
    obtain ⟨_, hcl, hat⟩ := World.cells?_some hc
    simp only [Prod.mk.injEq] at hy
    refine ⟨ys, n', hy.1, hy.2, hyl, fun j f hj => ?_⟩
    obtain ⟨ho, hk⟩ := hone_of hone j f hj
    have hjl : j < fs.size := (Array.getElem?_eq_some_iff.1 hj).1
    have hcell := hat j hjl
    have hv : cs'[j]? = some (cs'[j]'(by omega)) := List.getElem?_eq_getElem (by omega)
    have h1 := hf j f hj
    rw [ho, hk] at h1
    have hone' : (cs'.drop j).take 1 = [cs'[j]'(by omega)] := by
      rw [List.drop_eq_getElem_cons (by omega)]
      rfl
    rw [hone'] at h1
    have hys : ys[j]? = some (ys[j]'(by omega)) := List.getElem?_eq_getElem (by omega)
    refine ⟨_, _, ?_, hys, h1.trans hys⟩
    rw [← Go.Deep.add_add, hcell, hv]
end

/-- A slice argument as the walk wants it: its header, and each element's cells, field by field. -/
theorem open_rows {H : Type} {enc : TypeId × Value → H} {P : Program} {w : World} {b0 : Nat} {r : Reach} {t e : TypeId} {fs : Array Field} {v : Value} {d : DataW H} {p : List MemPlace} (ht : P.underlying t = some (.slice e)) (he : P.underlying e = some (.struct fs))
    (hone : oneCellFields P fs = true) (hC : P.cellsOf e = fs.size) (hv : Value.okWide P w r b0 t v) (h : DataW.Trod enc P w 0 (fun _ => true) true t v d p) :
    ∃ (A : Option Addr) (n c : Nat), v = .slice A n c ∧ n ≤ c ∧ c ≤ maxLen ∧ (A = none → n = 0 ∧ c = 0) ∧ (c = 0 ∨ ∃ elems spr, d = .slice elems spr ∧ elems.length + spr.length = c) ∧
      ∀ a, A = some a → ∀ i, i < c → ∀ (j : Nat) (f : Field), fs[j]? = some f → ∃ (u : Value) (y : DataW H × List MemPlace) (m : Nat), w.cell? ⟨a.block, a.off + i * fs.size + j, none⟩ = some u ∧ a.spot = none ∧ a.block < w.heap.size ∧ DataW.trod enc P w 0 (fun _ => true) true m f.type [u] = some y := by
  obtain ⟨a0, len, cap, rfl⟩ := okWide_slice ht hv
  obtain ⟨fuel, hf⟩ := h
  rcases open_slice_fields ht he hone hC hf with ⟨hcs, _⟩ | ⟨a, len', cap', m, D, Pl, hcs, _, hl, hm, hmm, hx, hi⟩
  · simp [Value.cells] at hcs
    obtain ⟨rfl, rfl, rfl⟩ := hcs
    exact ⟨none, 0, 0, rfl, Nat.le_refl _, by decide, fun _ => ⟨rfl, rfl⟩, .inl rfl, fun a ha => by cases ha⟩
  · simp [Value.cells] at hcs
    obtain ⟨rfl, rfl, rfl⟩ := hcs
    simp at hmm
    refine ⟨some a, len, cap, rfl, hl, hm, (fun h => by cases h), .inr ?_, fun a' ha' i hic j f hj => ?_⟩
    · simp only [Prod.mk.injEq] at hx
      exact ⟨_, _, hx.1, by simp; omega⟩
    cases ha'
    obtain ⟨ys, nn, _, _, _, hfl⟩ := hi i (by omega)
    obtain ⟨u, y, hc, _, hty⟩ := hfl j f hj
    have hb := World.block_lt_of_cell? w _ hc
    have hspot : a.spot = none ∧ w.cell? ⟨a.block, a.off + i * fs.size + j, none⟩ = some u := by
      obtain ⟨ab, ao, sq⟩ := a
      have hs0 : (⟨ab, ao, sq⟩ : Addr).spot = none := by
        obtain ⟨ys0, _, _, _, hys0, hf0⟩ := hi i (by omega)
        obtain ⟨ys1, _, _, _, hys1, hf1⟩ := hi 0 (by omega)
        have hlt : 0 < fs.size := by have := (Array.getElem?_eq_some_iff.1 hj).1; omega
        obtain ⟨u0, _, hc0, _, _⟩ := hf1 0 fs[0] (Array.getElem?_eq_getElem hlt)
        simp [Addr.add] at hc0
        cases sq with
        | none => rfl
        | some s => simp [World.cell?] at hc0; split at hc0 <;> simp at hc0
      have hs1 : sq = none := hs0
      subst hs1
      refine ⟨rfl, ?_⟩
      rw [Addr.add_mid, ← Nat.add_assoc] at hc
      exact hc
    have hb' : a.block < w.heap.size := by
      have hh := World.block_lt_of_cell? w _ hspot.2
      exact hh
    exact ⟨u, y, nn, hspot.2, hspot.1, hb', hty⟩

/-- The form's reach, for a slice argument. -/
theorem sized_rows {H : Type} {P : Program} {ts : List TypeId} {ds : List (DataW H)} (h : (DataW.weightsEach P ts ds).all (· ≤ reachBytes) = true) {j : Nat} {t e : TypeId} {d : DataW H} {c : Nat} (ht : ts[j]? = some t) (hd : ds[j]? = some d) (hu : P.underlying t = some (.slice e))
    (hc : c = 0 ∨ ∃ elems spr, d = .slice elems spr ∧ elems.length + spr.length = c) : c * P.bytesOf e ≤ reachBytes := by
  rcases hc with rfl | ⟨elems, spr, rfl, hl⟩
  · simp
  · rw [← hl]; exact sized_slice h ht hd hu

theorem i64_bounds {n : Int} (h : (Lit.int .i64 n).wf = true) : -9223372036854775808 ≤ n ∧ n ≤ 9223372036854775807 := bounds_i64 h

end Go.Proofs.YtjmdcpcoliljfaaGreatDoor

