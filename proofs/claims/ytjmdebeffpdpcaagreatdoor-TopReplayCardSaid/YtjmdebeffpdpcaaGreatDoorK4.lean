/- Package replay: Run. -/
import Derived.Test.YtjmdebeffpdpcaaGreatDoorK2
import Derived.Test.YtjmdebeffpdpcaaGreatDoorL4
namespace Go.Proofs.YtjmdebeffpdpcaaGreatDoor
open Go.RowKit
open Go.Lib hiding intOf

def kSet : ByteArray := ⟨#[115, 101, 116]⟩
def kGrow : ByteArray := ⟨#[103, 114, 111, 119]⟩
def kCut : ByteArray := ⟨#[99, 117, 116]⟩
def cutT (x : ByteArray) : List UInt8 × List UInt8 × Bool := cut (bl x) (bl ⟨#[32]⟩)

/-- The state after an entry, and what was wrong. -/
def stC (l : List Rw) (x : Ent) : Int :=
  if checkL l ≠ 0 then checkL l else if chk x ≠ 0 then chk x
  else if x.kind = kSet then (if (cutT x.text).2.2 = true then setC l (mk (cutT x.text).1) (mk (cutT x.text).2.1) else 5)
  else if x.kind = kGrow then (if (cutT x.text).2.2 = true then growC l (mk (cutT x.text).1) (mk (cutT x.text).2.1) else 5)
  else if x.kind = kCut then (if (cutT x.text).2.2 = true then 5 else cutC l (mk (cutT x.text).1))
  else 0
def stR (l : List Rw) (x : Ent) : List Rw :=
  if checkL l ≠ 0 then [] else if chk x ≠ 0 then []
  else if x.kind = kSet then (if (cutT x.text).2.2 = true then setR l (mk (cutT x.text).1) (mk (cutT x.text).2.1) else [])
  else if x.kind = kGrow then (if (cutT x.text).2.2 = true then growR l (mk (cutT x.text).1) (mk (cutT x.text).2.1) else [])
  else if x.kind = kCut then (if (cutT x.text).2.2 = true then [] else cutR l (mk (cutT x.text).1))
  else l

theorem chk_text {x : Ent} (h : chk x = 0) : x.text.size ≤ 120 := by
  have := (chk_ok.1 h).x
  rw [size_bl] at this; exact this

theorem cutT_size (x : ByteArray) : (cutT x).1.length ≤ x.size ∧ (cutT x).2.1.length ≤ x.size := by
  unfold cutT cut
  have := size_bl x
  split
  · simp only [List.length_take, List.length_drop]; omega
  · simp only [List.length_nil]; omega

theorem kind_ne {k : ByteArray} {a : List UInt8} (h : k ≠ ⟨a.toArray⟩) : (k.toList == a) = false := by
  rw [beq_eq_false_iff_ne, ByteArray.toList_eq]
  intro e
  exact h (bl_inj (by rw [show bl ⟨a.toArray⟩ = a from by simp [bl]]; exact e))

set_option maxRecDepth 100000 in
set_option maxHeartbeats 4000000 in
theorem Step_any (A : Option Addr) (n c : Nat) (l : List Rw) (x : Ent) (w : World) (h : StAt l A n w) (hw : Wf x) (he : Env w) :
    Calls Tryz.prog 17 #[.slice A n c, valE x] w (StateP (stR l x) (stC l x) w) := by
  have HCk := Lib.hid (fun W (hW : Below w.heap.size w W) => Check_any A n c l W (h.below hW).sl h.len h.z h.le)
  have HCe := Lib.hid (fun W => CheckE_any x W hw)
  have HC0 := Lib.hid (rfl : stC l x = stC l x)
  have HR0 := Lib.hid (rfl : stR l x = stR l x)
  obtain ⟨xn, xt, xk, xx⟩ := x
  unfold valE at HCe ⊢
  simp only at HCe ⊢
  have hbx : Below w.heap.size w (w.alloc (.cells #[.int .i64 xn, .int .i64 xt, .string xk, .string xx] 48)) := (Below.refl _ w).alloc (Nat.le_refl _) _
  have HBx := Lib.hid hbx
  have hnew := heap_alloc_new w (.cells #[.int .i64 xn, .int .i64 xt, .string xk, .string xx] 48)
  have HNew := Lib.hid hnew
  have hlt : w.heap.size < (w.alloc (.cells #[.int .i64 xn, .int .i64 xt, .string xk, .string xx] 48)).heap.size := (Array.getElem?_eq_some_iff.1 hnew).1
  have HLt := Lib.hid hlt
  clear hbx hnew hlt
  obtain ⟨SC, hSC⟩ : ∃ SC, stC l ⟨xn, xt, xk, xx⟩ = SC := ⟨_, rfl⟩
  obtain ⟨SR, hSR⟩ : ∃ SR, stR l ⟨xn, xt, xk, xx⟩ = SR := ⟨_, rfl⟩
  rw [hSC, hSR]
  clear HC0 HR0
  by_cases hc : checkL l = 0
  · have HC := Lib.hid hc
    by_cases hx : chk ⟨xn, xt, xk, xx⟩ = 0
    · have HX := Lib.hid hx
      have htx := chk_text hx
      simp only at htx
      have hcs := cutT_size xx
      have hcu : ∀ W, Below w.heap.size w W → Calls Tryz.prog 27 #[.string xx, .string ⟨#[32]⟩] W fun e w' => e = .returned (.tuple #[.string (mk (cutT xx).1), .string (mk (cutT xx).2.1), .bool (cutT xx).2.2]) ∧ Below W.heap.size W w' := fun W hW => Cut1_any xx ⟨#[32]⟩ W (by omega) (he.below hW)
      have hset := fun W (hW : Below w.heap.size w W) => Set_any A n c l W (h.below hW).sl h.len h.z h.le h.nil (mk (cutT xx).1) (mk (cutT xx).2.1) (by rw [size_mk]; unfold maxLen; omega) (by rw [size_mk]; unfold maxLen; omega)
      have hgr := fun W (hW : Below w.heap.size w W) => grow_any A n c l W (h.below hW) (mk (cutT xx).1) (mk (cutT xx).2.1) (by rw [size_mk]; omega) (by rw [size_mk]; omega) (he.below hW)
      have hcut := fun W (hW : Below w.heap.size w W) => Cut2_any A n c l W (h.below hW).sl h.len h.z h.le h.nil (mk (cutT xx).1)
      have HH := Lib.hid h
      unfold stC at hSC
      unfold stR at hSR
      rw [if_neg (by simpa using hc), if_neg (by simpa using hx)] at hSC hSR
      obtain ⟨⟨p, q, b⟩, hp⟩ : ∃ r, cutT xx = r := ⟨_, rfl⟩
      simp only [hp] at hSC hSR hcu hset hgr hcut
      have HCu := Lib.hid hcu
      have HSet := Lib.hid hset
      have HGr := Lib.hid hgr
      have HCut := Lib.hid hcut
      clear hp hcs hcu hset hgr hcut htx hx hc h hw he
      by_cases e1 : xk = kSet
      · rw [if_pos e1] at hSC hSR
        have d1 : (xk.toList == [115, 101, 116]) = true := by rw [e1, ByteArray.toList_eq]; rfl
        clear e1
        cases b with
        | true =>
          rw [if_pos rfl] at hSC hSR
          have HSC := Lib.hid hSC.symm
          have HSR := Lib.hid hSR.symm
          clear hSC hSR
          go_enter Tryz.func17, Tryz.ntmps17
          go_wp2_with (first
            | (go_at_call 28; go_loud (refine (HCk.out _ HBx.out).mono ?_; rintro e w1 ⟨he1, hb1⟩; rw [HC.out] at he1; subst he1; have B1 := bstep HBx.out hb1; have hn1 := (hb1.block _ HLt.out).trans HNew.out; have hl1 : w.heap.size < w1.heap.size := (Array.getElem?_eq_some_iff.1 hn1).1; have j0 := cell_of_row _ _ 0 _ _ _ hn1; have j1 := cell_of_row _ _ 1 _ _ _ hn1; have j2 := cell_of_row _ _ 2 _ _ _ hn1; have j3 := cell_of_row _ _ 3 _ _ _ hn1; have HN1 := Lib.hid hn1; clear hn1 hb1))
            | (go_at_call 29; go_loud (refine (HCe.out _).mono ?_; rintro e w2 ⟨he2, hb2⟩; rw [HX.out] at he2; subst he2; have B2 := bstep B1 hb2; have hn2 := (hb2.block _ hl1).trans HN1.out; have hl2 : w.heap.size < w2.heap.size := (Array.getElem?_eq_some_iff.1 hn2).1; have i2 := cell_of_row _ _ 2 _ _ _ hn2; have i3 := cell_of_row _ _ 3 _ _ _ hn2; have HN2 := Lib.hid hn2; clear hn2 hb2 j0 j1 j2 j3))
            | (go_at_call 27; go_loud (refine (HCu.out _ B2).mono ?_; rintro e w3 ⟨rfl, hb3⟩; have B3 := bstep B2 hb3; have hn3 := (hb3.block _ hl2).trans HN2.out; have k2 := cell_of_row _ _ 2 _ _ _ hn3; clear hn3 hb3 i2 i3))
            | (go_at_call 30; go_loud (refine (HSet.out _ B3).mono ?_; rintro e w5 h5; have h5' := h5.up B3; obtain ⟨A5, c5, rfl, ho5, hb5⟩ := h5')))
          go_ret2
          exact ⟨A5, c5, by rw [HSR.out, HSC.out]; rfl, by rw [HSR.out]; exact ho5, hb5⟩
        | false =>
          rw [if_neg (by decide)] at hSC hSR
          have HSC := Lib.hid hSC.symm
          have HSR := Lib.hid hSR.symm
          clear hSC hSR
          go_enter Tryz.func17, Tryz.ntmps17
          go_wp2_with (first
            | (go_at_call 28; go_loud (refine (HCk.out _ HBx.out).mono ?_; rintro e w1 ⟨he1, hb1⟩; rw [HC.out] at he1; subst he1; have B1 := bstep HBx.out hb1; have hn1 := (hb1.block _ HLt.out).trans HNew.out; have hl1 : w.heap.size < w1.heap.size := (Array.getElem?_eq_some_iff.1 hn1).1; have j0 := cell_of_row _ _ 0 _ _ _ hn1; have j1 := cell_of_row _ _ 1 _ _ _ hn1; have j2 := cell_of_row _ _ 2 _ _ _ hn1; have j3 := cell_of_row _ _ 3 _ _ _ hn1; have HN1 := Lib.hid hn1; clear hn1 hb1))
            | (go_at_call 29; go_loud (refine (HCe.out _).mono ?_; rintro e w2 ⟨he2, hb2⟩; rw [HX.out] at he2; subst he2; have B2 := bstep B1 hb2; have hn2 := (hb2.block _ hl1).trans HN1.out; have hl2 : w.heap.size < w2.heap.size := (Array.getElem?_eq_some_iff.1 hn2).1; have i2 := cell_of_row _ _ 2 _ _ _ hn2; have i3 := cell_of_row _ _ 3 _ _ _ hn2; have HN2 := Lib.hid hn2; clear hn2 hb2 j0 j1 j2 j3))
            | (go_at_call 27; go_loud (refine (HCu.out _ B2).mono ?_; rintro e w3 ⟨rfl, hb3⟩; have B3 := bstep B2 hb3; have hn3 := (hb3.block _ hl2).trans HN2.out; have k2 := cell_of_row _ _ 2 _ _ _ hn3; clear hn3 hb3 i2 i3)))
          go_ret2
          exact StateP_nil HSR.out HSC.out.symm B3
      · rw [if_neg e1] at hSC hSR
        have d1 : (xk.toList == [115, 101, 116]) = false := kind_ne e1
        by_cases e2 : xk = kGrow
        · rw [if_pos e2] at hSC hSR
          have d2 : (xk.toList == [103, 114, 111, 119]) = true := by rw [e2, ByteArray.toList_eq]; rfl
          clear e1 e2
          cases b with
          | true =>
            rw [if_pos rfl] at hSC hSR
            have HSC := Lib.hid hSC.symm
            have HSR := Lib.hid hSR.symm
            clear hSC hSR
            go_enter Tryz.func17, Tryz.ntmps17
            go_wp2_with (first
              | (go_at_call 28; go_loud (refine (HCk.out _ HBx.out).mono ?_; rintro e w1 ⟨he1, hb1⟩; rw [HC.out] at he1; subst he1; have B1 := bstep HBx.out hb1; have hn1 := (hb1.block _ HLt.out).trans HNew.out; have hl1 : w.heap.size < w1.heap.size := (Array.getElem?_eq_some_iff.1 hn1).1; have j0 := cell_of_row _ _ 0 _ _ _ hn1; have j1 := cell_of_row _ _ 1 _ _ _ hn1; have j2 := cell_of_row _ _ 2 _ _ _ hn1; have j3 := cell_of_row _ _ 3 _ _ _ hn1; have HN1 := Lib.hid hn1; clear hn1 hb1))
              | (go_at_call 29; go_loud (refine (HCe.out _).mono ?_; rintro e w2 ⟨he2, hb2⟩; rw [HX.out] at he2; subst he2; have B2 := bstep B1 hb2; have hn2 := (hb2.block _ hl1).trans HN1.out; have hl2 : w.heap.size < w2.heap.size := (Array.getElem?_eq_some_iff.1 hn2).1; have i2 := cell_of_row _ _ 2 _ _ _ hn2; have i3 := cell_of_row _ _ 3 _ _ _ hn2; have HN2 := Lib.hid hn2; clear hn2 hb2 j0 j1 j2 j3))
              | (go_at_call 27; go_loud (refine (HCu.out _ B2).mono ?_; rintro e w3 ⟨rfl, hb3⟩; have B3 := bstep B2 hb3; have hn3 := (hb3.block _ hl2).trans HN2.out; have k2 := cell_of_row _ _ 2 _ _ _ hn3; clear hn3 hb3 i2 i3))
              | (go_at_call 31; go_loud (refine (HGr.out _ B3).mono ?_; rintro e w5 h5; have h5' := h5.up B3; obtain ⟨A5, c5, rfl, ho5, hb5⟩ := h5')))
            go_ret2
            exact ⟨A5, c5, by rw [HSR.out, HSC.out]; rfl, by rw [HSR.out]; exact ho5, hb5⟩
          | false =>
            rw [if_neg (by decide)] at hSC hSR
            have HSC := Lib.hid hSC.symm
            have HSR := Lib.hid hSR.symm
            clear hSC hSR
            go_enter Tryz.func17, Tryz.ntmps17
            go_wp2_with (first
              | (go_at_call 28; go_loud (refine (HCk.out _ HBx.out).mono ?_; rintro e w1 ⟨he1, hb1⟩; rw [HC.out] at he1; subst he1; have B1 := bstep HBx.out hb1; have hn1 := (hb1.block _ HLt.out).trans HNew.out; have hl1 : w.heap.size < w1.heap.size := (Array.getElem?_eq_some_iff.1 hn1).1; have j0 := cell_of_row _ _ 0 _ _ _ hn1; have j1 := cell_of_row _ _ 1 _ _ _ hn1; have j2 := cell_of_row _ _ 2 _ _ _ hn1; have j3 := cell_of_row _ _ 3 _ _ _ hn1; have HN1 := Lib.hid hn1; clear hn1 hb1))
              | (go_at_call 29; go_loud (refine (HCe.out _).mono ?_; rintro e w2 ⟨he2, hb2⟩; rw [HX.out] at he2; subst he2; have B2 := bstep B1 hb2; have hn2 := (hb2.block _ hl1).trans HN1.out; have hl2 : w.heap.size < w2.heap.size := (Array.getElem?_eq_some_iff.1 hn2).1; have i2 := cell_of_row _ _ 2 _ _ _ hn2; have i3 := cell_of_row _ _ 3 _ _ _ hn2; have HN2 := Lib.hid hn2; clear hn2 hb2 j0 j1 j2 j3))
              | (go_at_call 27; go_loud (refine (HCu.out _ B2).mono ?_; rintro e w3 ⟨rfl, hb3⟩; have B3 := bstep B2 hb3; have hn3 := (hb3.block _ hl2).trans HN2.out; have k2 := cell_of_row _ _ 2 _ _ _ hn3; clear hn3 hb3 i2 i3)))
            go_ret2
            exact StateP_nil HSR.out HSC.out.symm B3
        · rw [if_neg e2] at hSC hSR
          have d2 : (xk.toList == [103, 114, 111, 119]) = false := kind_ne e2
          by_cases e3 : xk = kCut
          · rw [if_pos e3] at hSC hSR
            have d3 : (xk.toList == [99, 117, 116]) = true := by rw [e3, ByteArray.toList_eq]; rfl
            clear e1 e2 e3
            cases b with
            | true =>
              rw [if_pos rfl] at hSC hSR
              have HSC := Lib.hid hSC.symm
              have HSR := Lib.hid hSR.symm
              clear hSC hSR
              go_enter Tryz.func17, Tryz.ntmps17
              go_wp2_with (first
                | (go_at_call 28; go_loud (refine (HCk.out _ HBx.out).mono ?_; rintro e w1 ⟨he1, hb1⟩; rw [HC.out] at he1; subst he1; have B1 := bstep HBx.out hb1; have hn1 := (hb1.block _ HLt.out).trans HNew.out; have hl1 : w.heap.size < w1.heap.size := (Array.getElem?_eq_some_iff.1 hn1).1; have j0 := cell_of_row _ _ 0 _ _ _ hn1; have j1 := cell_of_row _ _ 1 _ _ _ hn1; have j2 := cell_of_row _ _ 2 _ _ _ hn1; have j3 := cell_of_row _ _ 3 _ _ _ hn1; have HN1 := Lib.hid hn1; clear hn1 hb1))
                | (go_at_call 29; go_loud (refine (HCe.out _).mono ?_; rintro e w2 ⟨he2, hb2⟩; rw [HX.out] at he2; subst he2; have B2 := bstep B1 hb2; have hn2 := (hb2.block _ hl1).trans HN1.out; have hl2 : w.heap.size < w2.heap.size := (Array.getElem?_eq_some_iff.1 hn2).1; have i2 := cell_of_row _ _ 2 _ _ _ hn2; have i3 := cell_of_row _ _ 3 _ _ _ hn2; have HN2 := Lib.hid hn2; clear hn2 hb2 j0 j1 j2 j3))
                | (go_at_call 27; go_loud (refine (HCu.out _ B2).mono ?_; rintro e w3 ⟨rfl, hb3⟩; have B3 := bstep B2 hb3; have hn3 := (hb3.block _ hl2).trans HN2.out; have k2 := cell_of_row _ _ 2 _ _ _ hn3; clear hn3 hb3 i2 i3)))
              go_ret2
              exact StateP_nil HSR.out HSC.out.symm B3
            | false =>
              rw [if_neg (by decide)] at hSC hSR
              have HSC := Lib.hid hSC.symm
              have HSR := Lib.hid hSR.symm
              clear hSC hSR
              go_enter Tryz.func17, Tryz.ntmps17
              go_wp2_with (first
                | (go_at_call 28; go_loud (refine (HCk.out _ HBx.out).mono ?_; rintro e w1 ⟨he1, hb1⟩; rw [HC.out] at he1; subst he1; have B1 := bstep HBx.out hb1; have hn1 := (hb1.block _ HLt.out).trans HNew.out; have hl1 : w.heap.size < w1.heap.size := (Array.getElem?_eq_some_iff.1 hn1).1; have j0 := cell_of_row _ _ 0 _ _ _ hn1; have j1 := cell_of_row _ _ 1 _ _ _ hn1; have j2 := cell_of_row _ _ 2 _ _ _ hn1; have j3 := cell_of_row _ _ 3 _ _ _ hn1; have HN1 := Lib.hid hn1; clear hn1 hb1))
                | (go_at_call 29; go_loud (refine (HCe.out _).mono ?_; rintro e w2 ⟨he2, hb2⟩; rw [HX.out] at he2; subst he2; have B2 := bstep B1 hb2; have hn2 := (hb2.block _ hl1).trans HN1.out; have hl2 : w.heap.size < w2.heap.size := (Array.getElem?_eq_some_iff.1 hn2).1; have i2 := cell_of_row _ _ 2 _ _ _ hn2; have i3 := cell_of_row _ _ 3 _ _ _ hn2; have HN2 := Lib.hid hn2; clear hn2 hb2 j0 j1 j2 j3))
                | (go_at_call 27; go_loud (refine (HCu.out _ B2).mono ?_; rintro e w3 ⟨rfl, hb3⟩; have B3 := bstep B2 hb3; have hn3 := (hb3.block _ hl2).trans HN2.out; have k2 := cell_of_row _ _ 2 _ _ _ hn3; clear hn3 hb3 i2 i3))
                | (go_at_call 32; go_loud (refine (HCut.out _ B3).mono ?_; rintro e w5 h5; have h5' := h5.up B3; obtain ⟨A5, c5, rfl, ho5, hb5⟩ := h5')))
              go_ret2
              exact ⟨A5, c5, by rw [HSR.out, HSC.out]; rfl, by rw [HSR.out]; exact ho5, hb5⟩
          · rw [if_neg e3] at hSC hSR
            have d3 : (xk.toList == [99, 117, 116]) = false := kind_ne e3
            have HSC := Lib.hid hSC.symm
            have HSR := Lib.hid hSR.symm
            have hlen := (fine_of HC.out).len
            have HFl := Lib.hid hlen
            clear e1 e2 e3 hSC hSR hlen
            cases A with
            | none =>
              have hn0 := HH.out.nil rfl
              subst hn0
              go_enter Tryz.func17, Tryz.ntmps17
              go_wp2_with (first
                | (go_at_call 28; go_loud (refine (HCk.out _ HBx.out).mono ?_; rintro e w1 ⟨he1, hb1⟩; rw [HC.out] at he1; subst he1; have B1 := bstep HBx.out hb1; have hn1 := (hb1.block _ HLt.out).trans HNew.out; have hl1 : w.heap.size < w1.heap.size := (Array.getElem?_eq_some_iff.1 hn1).1; have j0 := cell_of_row _ _ 0 _ _ _ hn1; have j1 := cell_of_row _ _ 1 _ _ _ hn1; have j2 := cell_of_row _ _ 2 _ _ _ hn1; have j3 := cell_of_row _ _ 3 _ _ _ hn1; have HN1 := Lib.hid hn1; clear hn1 hb1))
                | (go_at_call 29; go_loud (refine (HCe.out _).mono ?_; rintro e w2 ⟨he2, hb2⟩; rw [HX.out] at he2; subst he2; have B2 := bstep B1 hb2; have hn2 := (hb2.block _ hl1).trans HN1.out; have hl2 : w.heap.size < w2.heap.size := (Array.getElem?_eq_some_iff.1 hn2).1; have i2 := cell_of_row _ _ 2 _ _ _ hn2; have i3 := cell_of_row _ _ 3 _ _ _ hn2; have HN2 := Lib.hid hn2; clear hn2 hb2 j0 j1 j2 j3))
                | (go_at_call 27; go_loud (refine (HCu.out _ B2).mono ?_; rintro e w3 ⟨rfl, hb3⟩; have B3 := bstep B2 hb3; have hn3 := (hb3.block _ hl2).trans HN2.out; have k2 := cell_of_row _ _ 2 _ _ _ hn3; clear hn3 hb3 i2 i3)))
              go_ret2
              have hl0 : l = [] := List.length_eq_zero_iff.1 HH.out.len
              exact StateP_nil (HSR.out.trans hl0) HSC.out.symm B3
            | some ad =>
              obtain ⟨i0, J0, J1, J2, J3⟩ := info_parts CloneRw_info
              have hln := HH.out.len
              have hnews := fun W (hW : Below w.heap.size w W) => Sl_news (by decide) (HH.out.below hW).sl rfl (fun i (_ : i < n) => rwV_len l[i]!)
              have HN := Lib.hid hnews
              have HL := Lib.hid (flatR_len n (fun i (_ : i < n) => rwV_len l[i]!))
              have HO := Lib.hid (show ∀ u ∈ flatR (fun i => rwV l[i]!) n, u.oneCell' = true from fun u hu => by
                obtain ⟨i, hi, hu⟩ := flatR_mem hu
                exact rwV_one _ u hu)
              have hn64 : n ≤ 64 := by rw [← hln]; exact HFl.out
              clear hnews hln
              go_enter Tryz.func17, Tryz.ntmps17
              go_wp2_with (first
                | (go_at_call 28; go_loud (refine (HCk.out _ HBx.out).mono ?_; rintro e w1 ⟨he1, hb1⟩; rw [HC.out] at he1; subst he1; have B1 := bstep HBx.out hb1; have hn1 := (hb1.block _ HLt.out).trans HNew.out; have hl1 : w.heap.size < w1.heap.size := (Array.getElem?_eq_some_iff.1 hn1).1; have j0 := cell_of_row _ _ 0 _ _ _ hn1; have j1 := cell_of_row _ _ 1 _ _ _ hn1; have j2 := cell_of_row _ _ 2 _ _ _ hn1; have j3 := cell_of_row _ _ 3 _ _ _ hn1; have HN1 := Lib.hid hn1; clear hn1 hb1))
                | (go_at_call 29; go_loud (refine (HCe.out _).mono ?_; rintro e w2 ⟨he2, hb2⟩; rw [HX.out] at he2; subst he2; have B2 := bstep B1 hb2; have hn2 := (hb2.block _ hl1).trans HN1.out; have hl2 : w.heap.size < w2.heap.size := (Array.getElem?_eq_some_iff.1 hn2).1; have i2 := cell_of_row _ _ 2 _ _ _ hn2; have i3 := cell_of_row _ _ 3 _ _ _ hn2; have HN2 := Lib.hid hn2; clear hn2 hb2 j0 j1 j2 j3))
                | (go_at_call 27; go_loud (refine (HCu.out _ B2).mono ?_; rintro e w3 ⟨rfl, hb3⟩; have B3 := bstep B2 hb3; have hn3 := (hb3.block _ hl2).trans HN2.out; have k2 := cell_of_row _ _ 2 _ _ _ hn3; clear hn3 hb3 i2 i3))
                | (at_builtin; go_loud (refine wpList_append_own _ rfl (.const (.slice none 0 0)) (.tmp 60) 32 rfl w.heap.size 54 i0 _ 2 32 Tryz.underlying32 J0 J1 J2 J3 rfl (by decide) (.slice none 0 0) 0 [] rfl (World.ownsRow_nil _ _ _ _) ad n c (flatR (fun i => rwV l[i]!) n) rfl HL.out (HN.out _ B3) HO.out (by unfold maxLen; omega) (by omega) B3.size ?_; intro v' w' hown hg hni)))
              go_ret2
              rw [Nat.zero_add, List.nil_append] at hown
              obtain ⟨A5, c5, rfl⟩ := own_shape hown
              exact ⟨A5, c5, by rw [HSR.out, HSC.out, HH.out.len]; rfl, by rw [HSR.out, HH.out.len, rws, rowsV_flat rwV_len l, HH.out.len]; exact hown, B3.grown hg B3.size (fun k hk => by simp [Value.ownBlock] at hk)⟩
    · have HX := Lib.hid hx
      have hxb : (chk ⟨xn, xt, xk, xx⟩ != 0) = true := by simpa using hx
      unfold stC at hSC
      unfold stR at hSR
      rw [if_neg (by simpa using hc), if_pos (by simpa using hx)] at hSC hSR
      have HSC := Lib.hid hSC.symm
      have HSR := Lib.hid hSR.symm
      obtain ⟨ce, hce⟩ : ∃ ce, chk ⟨xn, xt, xk, xx⟩ = ce := ⟨_, rfl⟩
      rw [hce] at hxb HSC
      have HCE := Lib.hid hce
      clear hSC hSR hx hc h hw he hce
      go_enter Tryz.func17, Tryz.ntmps17
      go_wp2_with (first
        | (go_at_call 28; go_loud (refine (HCk.out _ HBx.out).mono ?_; rintro e w1 ⟨he1, hb1⟩; rw [HC.out] at he1; subst he1; have B1 := bstep HBx.out hb1; have hn1 := (hb1.block _ HLt.out).trans HNew.out; have hl1 : w.heap.size < w1.heap.size := (Array.getElem?_eq_some_iff.1 hn1).1; have j0 := cell_of_row _ _ 0 _ _ _ hn1; have j1 := cell_of_row _ _ 1 _ _ _ hn1; have j2 := cell_of_row _ _ 2 _ _ _ hn1; have j3 := cell_of_row _ _ 3 _ _ _ hn1; have HN1 := Lib.hid hn1; clear hn1 hb1))
        | (go_at_call 29; go_loud (refine (HCe.out _).mono ?_; rintro e w2 ⟨he2, hb2⟩; rw [HCE.out] at he2; subst he2; have B2 := bstep B1 hb2)))
      go_ret2
      exact StateP_nil HSR.out HSC.out.symm B2
  · have hcb : (checkL l != 0) = true := by simpa using hc
    unfold stC at hSC
    unfold stR at hSR
    rw [if_pos hc] at hSC hSR
    have HSC := Lib.hid hSC.symm
    have HSR := Lib.hid hSR.symm
    obtain ⟨ce, hce⟩ : ∃ ce, checkL l = ce := ⟨_, rfl⟩
    rw [hce] at hcb HSC
    have HCE := Lib.hid hce
    clear hSC hSR hc h hw he hce
    go_enter Tryz.func17, Tryz.ntmps17
    go_wp2_with (go_at_call 28; go_loud (refine (HCk.out _ HBx.out).mono ?_; rintro e w1 ⟨he1, hb1⟩; rw [HCE.out] at he1; subst he1))
    go_ret2
    exact StateP_nil HSR.out HSC.out.symm (bstep HBx.out hb1)
end Go.Proofs.YtjmdebeffpdpcaaGreatDoor

namespace Go.Proofs.YtjmdebeffpdpcaaGreatDoor
open Go.RowKit
open Go.Lib hiding intOf

/-- The first k of the entries f (o), f (o + 1), .. -/
def entsF (f : Nat → Ent) : Nat → Nat → List Ent
  | _, 0 => []
  | o, k + 1 => f o :: entsF f (o + 1) k
theorem entsF_len (f : Nat → Ent) : ∀ k o, (entsF f o k).length = k
  | 0, _ => rfl
  | k + 1, o => by rw [entsF, List.length_cons, entsF_len f k]

def runG : List Rw → Option Int → Nat → List Ent → List Rw × Nat × Int
  | out, _, _, [] => (out, 0, 0)
  | out, p, i, x :: r => if p.any (fun q => x.num ≠ q + 1) = true then ([], i, 21) else if stC out x ≠ 0 then ([], i, stC out x) else runG (stR out x) (some x.num) (i + 1) r
def runF (l : List Rw) (es : List Ent) : List Rw × Nat × Int := if checkL l ≠ 0 then ([], 0, checkL l) else if 500 < es.length then ([], 0, 2) else runG l none 0 es

theorem setC_fine0 {l : List Rw} {t v : ByteArray} (h : setC l t v = 0) : Fine (setR l t v) := by
  unfold setR; rw [if_pos h]; exact put_fine h
theorem st_fine {l : List Rw} {x : Ent} (h : stC l x = 0) : Fine (stR l x) := by
  unfold stC at h
  unfold stR
  by_cases hc : checkL l = 0
  · have hf := fine_of hc
    rw [if_neg (by simpa using hc)] at h ⊢
    by_cases hx : chk x = 0
    · rw [if_neg (by simpa using hx)] at h ⊢
      by_cases e1 : x.kind = kSet
      · rw [if_pos e1] at h ⊢
        by_cases hb : (cutT x.text).2.2 = true
        · rw [if_pos hb] at h ⊢; exact setC_fine0 h
        · rw [if_neg hb] at h; cases h
      · rw [if_neg e1] at h ⊢
        by_cases e2 : x.kind = kGrow
        · rw [if_pos e2] at h ⊢
          by_cases hb : (cutT x.text).2.2 = true
          · rw [if_pos hb] at h ⊢
            unfold growC at h
            unfold growR
            cases hd : numC (mk (cutT x.text).2.1) with
            | none => rw [hd] at h; cases h
            | some d =>
              rw [hd] at h
              simp only at h ⊢
              by_cases hg : (getL l (mk (cutT x.text).1)).2 ≠ 0
              · rw [if_pos hg] at h; exact absurd h hg
              · rw [if_neg hg] at h ⊢
                cases hn : numC (getL l (mk (cutT x.text).1)).1 with
                | none => rw [hn] at h; cases h
                | some n =>
                  rw [hn] at h
                  simp only at h ⊢
                  by_cases hr : n + d < -1000000000 ∨ 1000000000 < n + d
                  · rw [if_pos hr] at h; cases h
                  · rw [if_neg hr] at h ⊢; exact setC_fine0 h
          · rw [if_neg hb] at h; cases h
        · rw [if_neg e2] at h ⊢
          by_cases e3 : x.kind = kCut
          · rw [if_pos e3] at h ⊢
            by_cases hb : (cutT x.text).2.2 = true
            · rw [if_pos hb] at h; cases h
            · rw [if_neg hb] at h ⊢
              unfold cutR
              rw [if_pos h]
              exact cut_fine hf _
          · rw [if_neg e3]; exact hf
    · rw [if_pos (by simpa using hx)] at h; exact absurd h hx
  · rw [if_pos (by simpa using hc)] at h; exact absurd h hc

theorem st_ok {l : List Rw} {x : Ent} (h : stC l x = 0) : chk x = 0 := by
  unfold stC at h
  by_cases hc : checkL l = 0
  · rw [if_neg (by simpa using hc)] at h
    by_cases hx : chk x = 0
    · exact hx
    · rw [if_pos (by simpa using hx)] at h; exact absurd h hx
  · rw [if_pos (by simpa using hc)] at h; exact absurd h hc

/-- What Run hands back. -/
def RunP (l : List Rw) (i : Nat) (code : Int) (w : World) (e : Ending) (w' : World) : Prop :=
  ∃ A c, e = .returned (.tuple #[.slice A l.length c, .int .i64 (i : Int), .int .i64 code]) ∧ w'.ownsRow w.heap.size 54 2 (.slice A l.length c) l.length (rws l) ∧ Below w.heap.size w w'

theorem RunP_nil {l : List Rw} {i : Nat} {j : Int} {code code' : Int} {w w' : World} (hl : l = []) (hi : j = (i : Int)) (hc : code' = code) (hb : Below w.heap.size w w') : RunP l i code w (.returned (.tuple #[.slice none 0 0, .int .i64 j, .int .i64 code'])) w' := by
  subst hl hc hi
  exact ⟨none, 0, rfl, World.ownsRow_nil _ _ _ _, hb⟩

theorem StAt.of_own {l : List Rw} {A : Option Addr} {c base : Nat} {w : World} (hf : Fine l) (h : w.ownsRow base 54 2 (.slice A l.length c) l.length (rws l)) : StAt l A l.length w :=
  ⟨Sl_rows rwV_len h rfl (by decide), rfl, small_max hf, by have := hf.len; unfold maxLen; omega, fun hA => (own_nil h hA).1⟩
end Go.Proofs.YtjmdebeffpdpcaaGreatDoor
