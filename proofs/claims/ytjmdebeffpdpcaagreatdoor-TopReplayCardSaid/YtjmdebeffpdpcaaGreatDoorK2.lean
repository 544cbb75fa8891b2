/- Package replay: grow. -/
import Derived.Test.YtjmdebeffpdpcaaGreatDoorA3
import Derived.Lib.AtoiAllCases
import Derived.Lib.ItoaLen
import Derived.Test.YtjmdebeffpdpcaaGreatDoorSB3
namespace Go.Proofs.YtjmdebeffpdpcaaGreatDoor
open Go.RowKit
open Go.Lib hiding intOf

/-- The number that a counter's text says. -/
def numC (s : ByteArray) : Option Int := match atoiAll (bl s) with
  | .ok v => if -1000000000 ≤ v ∧ v ≤ 1000000000 ∧ mk (itoa v) = s then some v else none
  | _ => none

theorem numC_some {s : ByteArray} {v : Int} (h : numC s = some v) : -1000000000 ≤ v ∧ v ≤ 1000000000 ∧ mk (itoa v) = s := by
  unfold numC at h
  split at h
  · split at h
    · cases h; assumption
    · cases h
  · cases h

theorem itoa_size (v : Int) (h0 : -9223372036854775808 ≤ v) (h1 : v ≤ 9223372036854775807) : (mk (itoa v)).size ≤ 21 := by
  rw [size_mk]; exact itoa_length_le v h0 h1

def CounterP (s : ByteArray) (w : World) (e : Ending) (w' : World) : Prop :=
  (∃ n, e = .returned (.tuple #[.int .i64 n, .bool (numC s).isSome]) ∧ ∀ v, numC s = some v → n = v) ∧ Below w.heap.size w w'

set_option maxRecDepth 100000 in
set_option maxHeartbeats 1000000 in
theorem counter_any (s : ByteArray) (w : World) (hs : s.size ≤ 1000) (he : Env w) : Calls Tryz.prog 48 #[.string s] w (CounterP s w) := by
  have HA := Atoi_all s w hs he
  have HI := Lib.hid (fun v h0 h1 W hW => Itoa_int v W h0 h1 (he.below hW))
  rcases h : atoiAll (bl s) with v | _ | _
  · rw [h] at HA
    simp only at HA
    have hbd := atoiAll_bounds h
    by_cases h1 : -1000000000 ≤ v ∧ v ≤ 1000000000
    · have hn : numC s = if mk (itoa v) = s then some v else none := by
        unfold numC; rw [h]; simp [h1]
      have HN := Lib.hid hn
      have HH := Lib.hid HA
      have b1 : decide ((-1000000000 : Int) ≤ v) = true := by simp [h1.1]
      have b2 : decide (v ≤ (1000000000 : Int)) = true := by simp [h1.2]
      have hi := fun W hW => HI.out v hbd.1 hbd.2 W hW
      have HI2 := Lib.hid hi
      obtain ⟨T, hT⟩ : ∃ T, mk (itoa v) = T := ⟨_, rfl⟩
      rw [hT] at HN HI2
      obtain ⟨q, hq⟩ : ∃ q, (T.toList == s.toList) = q := ⟨_, rfl⟩
      have hfin : (numC s).isSome = q ∧ ∀ u, numC s = some u → v = u := by
        rw [HN.out, ← hq, ba_beqR]
        by_cases e : T = s
        · rw [if_pos e, e]; simp
        · rw [if_neg e]
          have : (bl T == bl s) = false := by rw [beq_eq_false_iff_ne]; exact fun hh => e (bl_inj hh)
          rw [this]; simp
      have HF := Lib.hid hfin
      clear HA h h1 hn hbd hi HI HN hfin hT
      go_enter Tryz.func48, Tryz.ntmps48
      go_wp2_with (first
        | (go_at_call 53; refine HH.out.mono ?_; rintro e w1 ⟨rfl, hb1⟩)
        | (go_at_call 33; refine (HI2.out _ hb1).mono ?_; rintro e w2 ⟨rfl, hb2⟩))
      go_ret2
      exact ⟨⟨v, by rw [HF.out.1, ← hq]; rfl, HF.out.2⟩, bstep hb1 hb2⟩
    · have hn : numC s = none := by
        unfold numC; rw [h]; simp only; rw [if_neg (fun hh => h1 ⟨hh.1, hh.2.1⟩)]
      have HN := Lib.hid hn
      have HH := Lib.hid HA
      have ht : (¬ -1000000000 ≤ v) ∨ (-1000000000 ≤ v ∧ ¬ v ≤ 1000000000) := by omega
      clear HA h h1 hn hbd HI
      rcases ht with h1 | ⟨h1, h2⟩
      · have b1 : decide ((-1000000000 : Int) ≤ v) = false := by simp; omega
        clear h1
        go_enter Tryz.func48, Tryz.ntmps48
        go_wp2_with (first
          | (go_at_call 53; refine HH.out.mono ?_; rintro e w1 ⟨rfl, hb1⟩))
        go_ret2
        exact ⟨⟨v, by rw [HN.out]; rfl, by rw [HN.out]; simp⟩, hb1⟩
      · have b1 : decide ((-1000000000 : Int) ≤ v) = true := by simp; omega
        have b2 : decide (v ≤ (1000000000 : Int)) = false := by simp; omega
        clear h1 h2
        go_enter Tryz.func48, Tryz.ntmps48
        go_wp2_with (first
          | (go_at_call 53; refine HH.out.mono ?_; rintro e w1 ⟨rfl, hb1⟩))
        go_ret2
        exact ⟨⟨v, by rw [HN.out]; rfl, by rw [HN.out]; simp⟩, hb1⟩
  · have hn : numC s = none := by unfold numC; rw [h]
    rw [h] at HA
    simp only at HA
    have HN := Lib.hid hn
    have HH := Lib.hid HA
    clear HA h hn HI
    go_enter Tryz.func48, Tryz.ntmps48
    go_wp2_with (first
      | (go_at_call 53; refine HH.out.mono ?_; rintro e w1 ⟨⟨v, N, t, rfl⟩, hb1⟩))
    go_ret2
    exact ⟨⟨v, by rw [HN.out]; rfl, by rw [HN.out]; simp⟩, hb1⟩
  · have hn : numC s = none := by unfold numC; rw [h]
    rw [h] at HA
    simp only at HA
    have HN := Lib.hid hn
    have HH := Lib.hid HA
    clear HA h hn HI
    go_enter Tryz.func48, Tryz.ntmps48
    go_wp2_with (first
      | (go_at_call 53; refine HH.out.mono ?_; rintro e w1 ⟨⟨v, N, t, rfl⟩, hb1⟩))
    go_ret2
    exact ⟨⟨v, by rw [HN.out]; rfl, by rw [HN.out]; simp⟩, hb1⟩
end Go.Proofs.YtjmdebeffpdpcaaGreatDoor

namespace Go.Proofs.YtjmdebeffpdpcaaGreatDoor
open Go.RowKit
open Go.Lib hiding intOf

/-- A state in memory. -/
structure StAt (l : List Rw) (A : Option Addr) (n : Nat) (w : World) : Prop where
  sl : Sl w w.heap.size 2 A n (fun i => rwV l[i]!)
  len : l.length = n
  z : ∀ x ∈ l, x.1.size ≤ maxLen ∧ x.2.size ≤ maxLen
  le : n ≤ maxLen
  nil : A = none → n = 0

theorem StAt.below {l : List Rw} {A : Option Addr} {n : Nat} {w w' : World} (h : StAt l A n w) (hb : Below w.heap.size w w') : StAt l A n w' :=
  ⟨(h.sl.below hb).more hb.size, h.len, h.z, h.le, h.nil⟩

theorem getL_size {l : List Rw} (t : ByteArray) : (getL l t).1.size ≤ 40 := by
  unfold getL
  by_cases hc : checkL l ≠ 0
  · rw [if_pos hc]; simp
  · rw [if_neg hc]
    have hf := fine_of (l := l) (by omega)
    cases hg : getK key1 l t with
    | none => simp
    | some x => exact (fine_small hf x ((getK_some hf.sorted).1 hg).1).2

def growC (l : List Rw) (key more : ByteArray) : Int :=
  match numC more with
  | none => 5
  | some d => if (getL l key).2 ≠ 0 then (getL l key).2 else match numC (getL l key).1 with
    | none => 11
    | some n => if n + d < -1000000000 ∨ 1000000000 < n + d then 4 else setC l key (mk (itoa (n + d)))
def growR (l : List Rw) (key more : ByteArray) : List Rw :=
  match numC more with
  | none => []
  | some d => if (getL l key).2 ≠ 0 then [] else match numC (getL l key).1 with
    | none => []
    | some n => if n + d < -1000000000 ∨ 1000000000 < n + d then [] else setR l key (mk (itoa (n + d)))

theorem StateP.up {l : List Rw} {c : Int} {w w1 : World} {e : Ending} {w' : World} (h : StateP l c w1 e w') (hb : Below w.heap.size w w1) : StateP l c w e w' := by
  obtain ⟨A, k, rfl, ho, hb'⟩ := h
  exact ⟨A, k, rfl, own_mono ho hb.size, bstep hb hb'⟩

set_option maxRecDepth 100000 in
set_option maxHeartbeats 2000000 in
theorem grow_any (A : Option Addr) (n c : Nat) (l : List Rw) (w : World) (h : StAt l A n w) (key more : ByteArray) (hk : key.size ≤ 1000) (hm : more.size ≤ 1000) (he : Env w) :
    Calls Tryz.prog 31 #[.slice A n c, .string key, .string more] w (StateP (growR l key more) (growC l key more) w) := by
  have HC1 := Lib.hid (counter_any more w hm he)
  have HG := Lib.hid (fun W (hW : Below w.heap.size w W) => Get_any A n c l W (h.below hW).sl h.len h.z h.le key)
  have HC2 := Lib.hid (fun W (hW : Below w.heap.size w W) => counter_any (getL l key).1 W (by have := getL_size (l := l) key; omega) (he.below hW))
  have HI := Lib.hid (fun v h0 h1 W (hW : Below w.heap.size w W) => Itoa_int v W h0 h1 (he.below hW))
  have HS := Lib.hid (fun (v : ByteArray) (hv : v.size ≤ 21) W (hW : Below w.heap.size w W) => Set_any A n c l W (h.below hW).sl h.len h.z h.le h.nil key v (by unfold maxLen; omega) (by unfold maxLen; omega))
  clear h hk hm he
  cases hd : numC more with
  | none =>
    have hgC : growC l key more = 5 := by unfold growC; rw [hd]
    have hgR : growR l key more = [] := by unfold growR; rw [hd]
    have HgC := Lib.hid hgC
    have HgR := Lib.hid hgR
    have HD := Lib.hid hd
    clear hgC hgR hd
    go_enter Tryz.func31, Tryz.ntmps31
    go_wp2_with (go_at_call 48; refine HC1.out.mono ?_; rintro e w1 ⟨⟨n1, rfl, _⟩, hb1⟩; rw [HD.out]; simp only [Option.isSome_none])
    go_ret2
    exact StateP_nil HgR.out HgC.out.symm hb1
  | some d =>
    have HD := Lib.hid hd
    have hdb := numC_some hd
    by_cases hg0 : (getL l key).2 = 0
    · have HG0 := Lib.hid hg0
      cases hn : numC (getL l key).1 with
      | none =>
        have hgC : growC l key more = 11 := by unfold growC; rw [hd]; simp only; rw [if_neg (by simpa using hg0), hn]
        have hgR : growR l key more = [] := by unfold growR; rw [hd]; simp only; rw [if_neg (by simpa using hg0), hn]
        have HgC := Lib.hid hgC
        have HgR := Lib.hid hgR
        have HN := Lib.hid hn
        obtain ⟨gv, hgv⟩ : ∃ gv, (getL l key).1 = gv := ⟨_, rfl⟩
        have HGV := Lib.hid hgv
        clear hgC hgR hd hn hg0 hdb hgv
        go_enter Tryz.func31, Tryz.ntmps31
        go_wp2_with (first
          | (have _h9 := hb2; go_at_call 48; refine (HC2.out _ hb2).mono ?_; rintro e w3 ⟨⟨n3, rfl, _⟩, hb3⟩; rw [HN.out]; simp only [Option.isSome_none])
          | (go_at_call 48; refine HC1.out.mono ?_; rintro e w1 ⟨⟨n1, rfl, _⟩, hb1⟩; rw [HD.out]; simp only [Option.isSome_some])
          | (go_at_call 49; refine (HG.out _ hb1).mono ?_; rintro e w2 ⟨rfl, hb2'⟩; rw [HG0.out]; have hb2 := bstep hb1 hb2'))
        go_ret2
        exact StateP_nil HgR.out HgC.out.symm (bstep hb2 hb3)
      | some m =>
        have HN := Lib.hid hn
        have hnb := numC_some hn
        have wa : IntKind.i64.wrap (m + d) = m + d := IntWalk.i64_in _ (by omega)
        by_cases hr : m + d < -1000000000 ∨ 1000000000 < m + d
        · have hgC : growC l key more = 4 := by unfold growC; rw [hd]; simp only; rw [if_neg (by simpa using hg0), hn]; simp only; rw [if_pos hr]
          have hgR : growR l key more = [] := by unfold growR; rw [hd]; simp only; rw [if_neg (by simpa using hg0), hn]; simp only; rw [if_pos hr]
          have HgC := Lib.hid hgC
          have HgR := Lib.hid hgR
          have ht : (m + d < -1000000000) ∨ (¬ m + d < -1000000000 ∧ 1000000000 < m + d) := by omega
          clear hgC hgR hd hn hg0 hdb hnb hr
          rcases ht with b1 | ⟨b1, b2⟩
          · have b1' : decide (m + d < -1000000000) = true := by simp; omega
            clear b1
            go_enter Tryz.func31, Tryz.ntmps31
            go_wp2_with (first
              | (have _h9 := hb2; go_at_call 48; refine (HC2.out _ hb2).mono ?_; rintro e w3 ⟨⟨n3, rfl, hn3⟩, hb3⟩; rw [HN.out]; simp only [Option.isSome_some]; obtain rfl : n3 = m := hn3 m HN.out)
              | (go_at_call 48; refine HC1.out.mono ?_; rintro e w1 ⟨⟨n1, rfl, hn1⟩, hb1⟩; rw [HD.out]; simp only [Option.isSome_some]; obtain rfl : n1 = d := hn1 d HD.out)
              | (go_at_call 49; refine (HG.out _ hb1).mono ?_; rintro e w2 ⟨rfl, hb2'⟩; rw [HG0.out]; have hb2 := bstep hb1 hb2'))
            go_ret2
            exact StateP_nil HgR.out HgC.out.symm (bstep hb2 hb3)
          · have b1' : decide (m + d < -1000000000) = false := by simp; omega
            have b2' : decide ((1000000000 : Int) < m + d) = true := by simp; omega
            clear b1 b2
            go_enter Tryz.func31, Tryz.ntmps31
            go_wp2_with (first
              | (have _h9 := hb2; go_at_call 48; refine (HC2.out _ hb2).mono ?_; rintro e w3 ⟨⟨n3, rfl, hn3⟩, hb3⟩; rw [HN.out]; simp only [Option.isSome_some]; obtain rfl : n3 = m := hn3 m HN.out)
              | (go_at_call 48; refine HC1.out.mono ?_; rintro e w1 ⟨⟨n1, rfl, hn1⟩, hb1⟩; rw [HD.out]; simp only [Option.isSome_some]; obtain rfl : n1 = d := hn1 d HD.out)
              | (go_at_call 49; refine (HG.out _ hb1).mono ?_; rintro e w2 ⟨rfl, hb2'⟩; rw [HG0.out]; have hb2 := bstep hb1 hb2'))
            go_ret2
            exact StateP_nil HgR.out HgC.out.symm (bstep hb2 hb3)
        · have hgC : growC l key more = setC l key (mk (itoa (m + d))) := by unfold growC; rw [hd]; simp only; rw [if_neg (by simpa using hg0), hn]; simp only; rw [if_neg hr]
          have hgR : growR l key more = setR l key (mk (itoa (m + d))) := by unfold growR; rw [hd]; simp only; rw [if_neg (by simpa using hg0), hn]; simp only; rw [if_neg hr]
          have HgC := Lib.hid hgC
          have HgR := Lib.hid hgR
          have hsz := itoa_size (m + d) (by omega) (by omega)
          have HI2 := Lib.hid (fun W hW => HI.out (m + d) (by omega) (by omega) W hW)
          have HS2 := Lib.hid (HS.out _ hsz)
          have b1' : decide (m + d < -1000000000) = false := by simp; omega
          have b2' : decide ((1000000000 : Int) < m + d) = false := by simp; omega
          obtain ⟨T, hT⟩ : ∃ T, mk (itoa (m + d)) = T := ⟨_, rfl⟩
          rw [hT] at HI2 HS2 HgC HgR
          clear hgC hgR hd hn hg0 hdb hnb hr hsz HI HS hT
          go_enter Tryz.func31, Tryz.ntmps31
          go_wp2_with (first
            | (have _h9 := hb2; go_at_call 48; refine (HC2.out _ hb2).mono ?_; rintro e w3 ⟨⟨n3, rfl, hn3⟩, hb3'⟩; rw [HN.out]; simp only [Option.isSome_some]; obtain rfl : n3 = m := hn3 m HN.out; have hb3 := bstep hb2 hb3')
            | (go_at_call 48; refine HC1.out.mono ?_; rintro e w1 ⟨⟨n1, rfl, hn1⟩, hb1⟩; rw [HD.out]; simp only [Option.isSome_some]; obtain rfl : n1 = d := hn1 d HD.out)
            | (go_at_call 49; refine (HG.out _ hb1).mono ?_; rintro e w2 ⟨rfl, hb2'⟩; rw [HG0.out]; have hb2 := bstep hb1 hb2')
            | (go_at_call 33; refine (HI2.out _ hb3).mono ?_; rintro e w4 ⟨rfl, hb4'⟩; have hb4 := bstep hb3 hb4')
            | (go_at_call 30; refine (HS2.out _ hb4).mono ?_; rintro e w5 h5; have h5' := h5.up hb4; obtain ⟨A5, c5, rfl, ho5, hb5⟩ := h5'))
          go_ret2
          exact ⟨A5, c5, by rw [HgR.out, HgC.out]; rfl, by rw [HgR.out]; exact ho5, hb5⟩
    · have hgC : growC l key more = (getL l key).2 := by unfold growC; rw [hd]; simp only; rw [if_pos hg0]
      have hgR : growR l key more = [] := by unfold growR; rw [hd]; simp only; rw [if_pos hg0]
      have HgC := Lib.hid hgC
      have HgR := Lib.hid hgR
      obtain ⟨gc, hgc⟩ : ∃ gc, (getL l key).2 = gc := ⟨_, rfl⟩
      rw [hgc] at hg0 HgC
      have hgb : (gc != 0) = true := by simpa using hg0
      have HGC := Lib.hid hgc
      clear hgC hgR hd hg0 hdb hgc
      go_enter Tryz.func31, Tryz.ntmps31
      go_wp2_with (first
        | (go_at_call 48; refine HC1.out.mono ?_; rintro e w1 ⟨⟨n1, rfl, _⟩, hb1⟩; rw [HD.out]; simp only [Option.isSome_some])
        | (go_at_call 49; refine (HG.out _ hb1).mono ?_; rintro e w2 ⟨rfl, hb2'⟩; rw [HGC.out]; have hb2 := bstep hb1 hb2'))
      go_ret2
      exact StateP_nil HgR.out HgC.out.symm hb2
end Go.Proofs.YtjmdebeffpdpcaaGreatDoor
