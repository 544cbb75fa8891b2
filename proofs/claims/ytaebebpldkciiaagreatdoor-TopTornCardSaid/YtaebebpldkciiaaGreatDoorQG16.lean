/- Contracts and plain words, part 16: texts U15. -/
import Derived.Test.YtaebebpldkciiaaGreatDoorQG15
import Derived.Test.YtaebebpldkciiaaGreatDoorQG10
namespace Go.Proofs.YtaebebpldkciiaaGreatDoor
open Go.RowKit
theorem begin_all (A : Option Addr) (l : List Ow) (n c : Nat) (s by_ : ByteArray) (w : World) (hA : OwA A n l w) (hok : OwOk l) (h24 : n < 24) (hs : s.size ≤ maxLen) (hb : by_.size ≤ maxLen) :
  (beE l s by_ ≠ 0 → Calls Tryz.prog 103 #[.slice A n c, .string s, .string by_] w (NoP (beE l s by_) w)) ∧ (beE l s by_ = 0 → Calls Tryz.prog 103 #[.slice A n c, .string s, .string by_] w (YesP (insO l ⟨s, by_, .empty⟩) w)) := by
 refine ⟨fun h => begin_no A l n c s by_ w hA hok hs hb h, fun h => ?_⟩
 obtain ⟨h1, h2, h3⟩ := be_zero h
 have := begin_ok A l n c s by_ w hA hok h24 h1 h2 h3
 have e : (insO l ⟨s, by_, .empty⟩).length = n + 1 := by rw [insO_len, hA.1]
 refine this.mono fun e' w' hh => ?_
 obtain ⟨A', c', r1, r2, r3⟩ := hh
 exact ⟨A', c', by rw [e]; exact r1, by rw [e]; exact r2, r3⟩
def NewFl (w : World) (x : Inp) (T8 bS : Nat) (A2 : Option Addr) (c2 : Nat) (land : Int) (W : World) : Prop :=
 w.heap.size ≤ T8 ∧ w.heap.size ≤ bS ∧ T8 ≠ bS ∧ W.heap[T8]? = some (.cells #[.string x.call, .int .i64 x.wake, .int .i64 x.slot, .bool x.lands, .slice (some ⟨bS, 0, none⟩) 1 1, .slice none 0 0, .int .i64 land, .int .i64 0] 46 (0, 0)) ∧
 W.heap[bS]? = some (.cells #[.slice A2 x.tube.length c2] 44 (0, 0)) ∧ W.ownsRow w.heap.size 52 6 (.slice A2 x.tube.length c2) x.tube.length (rowsV ndV x.tube)
theorem NewFl.below {w W W' : World} {x : Inp} {T8 bS c2 : Nat} {A2 : Option Addr} {land : Int} (h : NewFl w x T8 bS A2 c2 land W) (hb : Below W.heap.size W W') : NewFl w x T8 bS A2 c2 land W' := by
 obtain ⟨h1, h2, h3, h4, h5, h6⟩ := h
 exact ⟨h1, h2, h3, (hb.block _ (Array.getElem?_eq_some_iff.1 h4).1).trans h4, (hb.block _ (Array.getElem?_eq_some_iff.1 h5).1).trans h5, own_below h6 hb (Nat.le_refl _)⟩
theorem NewFl.lt {w W : World} {x : Inp} {T8 bS c2 : Nat} {A2 : Option Addr} {land : Int} (h : NewFl w x T8 bS A2 c2 land W) : T8 < W.heap.size := (Array.getElem?_eq_some_iff.1 h.2.2.2.1).1
theorem NewFl.setLand {w W : World} {x : Inp} {T8 bS c2 : Nat} {A2 : Option Addr} {land : Int} (h : NewFl w x T8 bS A2 c2 land W) (v : Int) : NewFl w x T8 bS A2 c2 v (W.setCell ⟨T8, 6, none⟩ (.int .i64 v)) := by
 obtain ⟨h1, h2, h3, h4, h5, h6⟩ := h
 refine ⟨h1, h2, h3, heap_setCell_same _ _ _ _ _ _ h4, (Below.heap_setCell _ _ _ _ (fun e => h3 e.symm)).trans h5, ?_⟩
 exact h6.kept (grown_setCell W T8 6 _) (.inr (OwnF.other (F := fun _ => True) ⟨own_mono h6 (Nat.zero_le _), fun _ _ => trivial⟩ h4 (by decide)))
theorem NewFl.flm {S : Su} {c : Ce} {w W : World} {x : Inp} {T8 bS c2 : Nat} {A2 : Option Addr} {land : Int} (h : NewFl w x T8 bS A2 c2 land W) (hland : land = if x.lands = true then landP S c.fl x.call x.wake x.tube else 0) :
  FlM (fun k => w.heap.size ≤ k) ⟨x.call, x.wake, x.slot, x.lands, some ⟨bS, 0, none⟩, 1, 1, none, 0, 0, land, 0⟩ [⟨A2, x.tube.length, c2⟩] (newF S c x) W := by
 obtain ⟨h1, h2, h3, h4, h5, h6⟩ := h
 refine ⟨rfl, rfl, rfl, rfl, hland, rfl, rfl, rfl, ⟨⟨rfl, .inr ⟨bS, 1, _, rfl, Nat.zero_le _, h5, Nat.le_refl _, by decide, rfl, rfl⟩⟩, fun k hk => ?_⟩, fun j hj => ?_, TuM.nil _ _⟩
 ·have hk' : bS = k := by simpa [Value.ownBlock] using hk
  omega
 ·obtain rfl : j = 0 := by simp [newF] at hj; omega
  exact ⟨rfl, own_mono h6 (Nat.zero_le _), fun k hk => (h6.lt k hk).1⟩
theorem below_al {a W : World} (h : Below a.heap.size a W) (o : Obj) : Below a.heap.size a (W.alloc o) := h.alloc h.size o
theorem below_s8 {a W : World} {T : Nat} (h : Below a.heap.size a W) (hT : a.heap.size ≤ T) (u0 u1 u2 u3 u4 u5 u6 u7 : Value) :
  Below a.heap.size a ((((((((W.setCell ⟨T, 0, none⟩ u0).setCell ⟨T, 1, none⟩ u1).setCell ⟨T, 2, none⟩ u2).setCell ⟨T, 3, none⟩ u3).setCell ⟨T, 4, none⟩ u4).setCell ⟨T, 5, none⟩ u5).setCell ⟨T, 6, none⟩ u6).setCell ⟨T, 7, none⟩ u7) :=
 (((((((h.setCell (p := ⟨T, 0, none⟩) hT _).setCell (p := ⟨T, 1, none⟩) hT _).setCell (p := ⟨T, 2, none⟩) hT _).setCell (p := ⟨T, 3, none⟩) hT _).setCell (p := ⟨T, 4, none⟩) hT _).setCell (p := ⟨T, 5, none⟩) hT _).setCell (p := ⟨T, 6, none⟩) hT _).setCell (p := ⟨T, 7, none⟩) hT _
theorem s8_heap {W : World} {T : Nat} {t : TypeId} {z0 z1 z2 z3 z4 z5 z6 z7 : Value} (h : W.heap[T]? = some (.cells #[z0, z1, z2, z3, z4, z5, z6, z7] t (0, 0))) (u0 u1 u2 u3 u4 u5 u6 u7 : Value) :
  ((((((((W.setCell ⟨T, 0, none⟩ u0).setCell ⟨T, 1, none⟩ u1).setCell ⟨T, 2, none⟩ u2).setCell ⟨T, 3, none⟩ u3).setCell ⟨T, 4, none⟩ u4).setCell ⟨T, 5, none⟩ u5).setCell ⟨T, 6, none⟩ u6).setCell ⟨T, 7, none⟩ u7).heap[T]? = some (.cells #[u0, u1, u2, u3, u4, u5, u6, u7] t (0, 0)) := by
 have a0 := heap_setCell_same W T 0 _ _ u0 h
 have a1 := heap_setCell_same _ T 1 _ _ u1 a0
 have a2 := heap_setCell_same _ T 2 _ _ u2 a1
 have a3 := heap_setCell_same _ T 3 _ _ u3 a2
 have a4 := heap_setCell_same _ T 4 _ _ u4 a3
 have a5 := heap_setCell_same _ T 5 _ _ u5 a4
 have a6 := heap_setCell_same _ T 6 _ _ u6 a5
 have a7 := heap_setCell_same _ T 7 _ _ u7 a6
 rw [a7]
 simp
theorem newfl_store {w W : World} {x : Inp} {T8 bS c2 n : Nat} {A2 : Option Addr} (hn : n = x.tube.length) {z0 z1 z2 z3 z4 z5 z6 z7 : Value} (hT : W.heap[T8]? = some (.cells #[z0, z1, z2, z3, z4, z5, z6, z7] 46 (0, 0))) (hS : W.heap[bS]? = some (.cells #[.slice A2 n c2] 44 (0, 0)))
  (ho : W.ownsRow w.heap.size 52 6 (.slice A2 n c2) n (rowsV ndV x.tube)) {w6 : World} (_h6 : w.heap.size < w6.heap.size) (h1 : w.heap.size ≤ T8) (h2 : w.heap.size ≤ bS) (hne : T8 ≠ bS) :
  NewFl w x T8 bS A2 c2 0 ((((((((W.setCell ⟨T8, 0, none⟩ (.string x.call)).setCell ⟨T8, 1, none⟩ (.int .i64 x.wake)).setCell ⟨T8, 2, none⟩ (.int .i64 x.slot)).setCell ⟨T8, 3, none⟩ (.bool x.lands)).setCell ⟨T8, 4, none⟩ (.slice (some ⟨bS, 0, none⟩) 1 1)).setCell ⟨T8, 5, none⟩ (.slice none 0 0)).setCell ⟨T8, 6, none⟩ (.int .i64 0)).setCell ⟨T8, 7, none⟩ (.int .i64 0)) := by
 subst hn
 have hoth : ∀ k, k ≠ T8 → ((((((((W.setCell ⟨T8, 0, none⟩ (.string x.call)).setCell ⟨T8, 1, none⟩ (.int .i64 x.wake)).setCell ⟨T8, 2, none⟩ (.int .i64 x.slot)).setCell ⟨T8, 3, none⟩ (.bool x.lands)).setCell ⟨T8, 4, none⟩ (.slice (some ⟨bS, 0, none⟩) 1 1)).setCell ⟨T8, 5, none⟩ (.slice none 0 0)).setCell ⟨T8, 6, none⟩ (.int .i64 0)).setCell ⟨T8, 7, none⟩ (.int .i64 0)).heap[k]? = W.heap[k]? := fun k hk =>
  (Below.heap_setCell _ _ _ _ hk).trans ((Below.heap_setCell _ _ _ _ hk).trans ((Below.heap_setCell _ _ _ _ hk).trans ((Below.heap_setCell _ _ _ _ hk).trans ((Below.heap_setCell _ _ _ _ hk).trans ((Below.heap_setCell _ _ _ _ hk).trans ((Below.heap_setCell _ _ _ _ hk).trans (Below.heap_setCell _ _ _ _ hk)))))))
 refine ⟨h1, h2, hne, s8_heap hT _ _ _ _ _ _ _ _, (hoth bS (fun e => hne e.symm)).trans hS, ?_⟩
 refine own_mono (base := w.heap.size) ?_ (Nat.le_refl _)
 have hO : OwnF (fun _ => True) W 52 6 (.slice A2 x.tube.length c2) x.tube.length (rowsV ndV x.tube) := ⟨own_mono ho (Nat.zero_le _), fun _ _ => trivial⟩
 refine ⟨ho.1, ?_⟩
 rcases ho.2 with hnil | ⟨b, cap, cur, e, hb, hbk, rest⟩
 ·exact .inl hnil
 ·refine .inr ⟨b, cap, cur, e, hb, (hoth b (fun e2 => ?_)).trans hbk, rest⟩
  rw [e2, hT] at hbk
  cases hbk
theorem fmV_one (z : Fm) : ∀ u ∈ fmV z, u.oneCell' = true := fun u hu => by
 simp only [fmV, List.mem_cons, List.not_mem_nil, or_false] at hu
 rcases hu with rfl | rfl | rfl | rfl | rfl | rfl | rfl | rfl <;> rfl
set_option maxRecDepth 100000 in
set_option maxHeartbeats 32000000 in
theorem file_any {F : Nat → Prop} {g : Nat} {S : Su} {c : Ce} {y : Lay} {w : World} (h : CeM F g S c y w) (hok : CeOk c) (hS : SuOk S) (h20 : c.acc < 20) (x : Inp) (A : Option Addr) (n cA : Nat) (hT : TuA A n x.tube w) (hn : n ≤ maxLen) (hs1 : x.call.size ≤ maxLen) (hs2 : x.by_.size ≤ maxLen) :
  Calls Tryz.prog 63 #[.pointer (some ⟨g, 0, none⟩), inpV x A n cA] w (MethP F g S w (if fileE S c x = 0 then (fileC S c x, 0) else (c, fileE S c x))) := by
 obtain ⟨V, hV⟩ : ∃ V, w.alloc (inpO x A n cA) = V := ⟨_, rfl⟩
 have hbV : Below w.heap.size w V := by rw [← hV]; exact (Below.refl _ _).alloc (Nat.le_refl _) _
 have hzV : V.heap.size = w.heap.size + 1 := by rw [← hV, size_al]
 have hgB : V.heap[w.heap.size]? = some (inpO x A n cA) := by rw [← hV]; exact heap_alloc_new _ _
 have hMV := h.below hbV
 have HV := Lib.hid hV
 have HBV := Lib.hid hbV
 have HZV := Lib.hid hzV
 have HFb0 := Lib.hid h.bd
 have HBx := Lib.hid (fun (W : World) (hb : Below V.heap.size V W) => (show W.heap[w.heap.size]? = some (inpO x A n cA) from (hb.block _ (by omega)).trans hgB))
 have HM := Lib.hid (fun (W : World) (hb : Below V.heap.size V W) => hMV.below hb)
 have HTu := Lib.hid (fun (W : World) (hb : Below V.heap.size V W) => hT.below (hbV.trans (hb.mono hbV.size)))
 obtain ⟨R, hR⟩ : ∃ R, MethP F g S w (if fileE S c x = 0 then (fileC S c x, 0) else (c, fileE S c x)) = R := ⟨_, rfl⟩
 have HNo : Hid (∀ (k : Int) (W : World) (e : Ending), k ≠ 0 → fileE S c x = k → Below V.heap.size V W → e = .returned (.int .i64 k) → R e W) := Lib.hid (fun k W e hk he hb hee => by
  rw [hee, ← hR, he, if_neg hk]
  exact MethP.same h (HBV.out.trans (hb.mono HBV.out.size)) k)
 have HYes : Hid (fileE S c x = 0 → MethP F g S w (fileC S c x, 0) = R) := Lib.hid (fun he => by rw [← hR, he, if_pos rfl])
 rw [hR]
 have hon24 : y.oh.n < 24 := by have := hok.cnt; have := h.oh; omega
 have HBe := Lib.hid (fun (W : World) (hb : Below V.heap.size V W) => begin_all y.oh.A c.ow y.oh.n y.oh.c x.call x.by_ W (hMV.below hb).owa hok.ow hon24 hs1 hs2)
 have HCe := Lib.hid (fun (W : World) (hb : Below V.heap.size V W) => (show W.cell? ⟨g, 20, none⟩ = some (.slice y.oh.A y.oh.n y.oh.c) ∧ W.cell? ⟨g, 19, none⟩ = some (.slice y.fh.A y.fh.n y.fh.c) from ⟨(hMV.below hb).cell 20, (hMV.below hb).cell 19⟩))
 have HFz := Lib.hid (fun (W : World) (hb : Below V.heap.size V W) => (hMV.below hb).frozen)
 have HFind := Lib.hid (fun (W : World) (hb : Below V.heap.size V W) => find_any (hMV.below hb) hok x.call)
 unfold FindP at HFind
 have HClash := Lib.hid (fun (W : World) (hb : Below V.heap.size V W) (hl : TuOk x.tube) (hA' : TuA A x.tube.length x.tube W) => clash_any (hMV.below hb) hok hS x.call A cA x.tube hA' hl)
 have HLand := Lib.hid (fun (W : World) (hb : Below V.heap.size V W) (wk : Int) (hw : 0 ≤ wk ∧ wk ≤ 3) (hl : TuOk x.tube) => landing_any (hMV.below hb) hok hS x.call wk hw A n cA x.tube (HTu.out W hb) hl)
 have HCk := Lib.hid (fun (W : World) (hb : Below V.heap.size V W) => TCheck_any A n cA x.tube W (HTu.out W hb) hn)
 have hlow : lowO c.ow x.call ≤ c.fl.length := by have := lowO_le c.ow x.call; have := hok.len; omega
 have hf24 : c.fl.length ≤ 24 := by have := hok.len; have := hok.ow.n; omega
 have HIns := Lib.hid (fun (W : World) (hb : Below V.heap.size V W) (vb : Nat) (xf : Fm) (hvb : W.heap[vb]? = some (.cells (fmV xf).toArray 46 (0, 0))) (hne : (Value.slice y.fh.A y.fh.n y.fh.c).ownBlock ≠ some vb) => InsertFl_own 0 y.fh.n y.fh.c (lowO c.ow x.call) vb y.fh.A (rowsV fmV y.fs) (fmV xf) W
  (by have := (hMV.below hb).fown.1; unfold Hd.v at this; rw [← h.fh] at this; exact this) (rowsV_one fmV_one _) rfl (fmV_one xf) hvb hne (by rw [h.fh]; exact hlow) (by rw [h.fh]; omega) (Nat.zero_le _))
 unfold InsertFlP at HIns
 have HFN := Lib.hid (fun (W w5 : World) (hb : Below V.heap.size V W) => file_fin (S := S) (w := w) (W4 := W) (w5 := w5) x (hMV.below hb) HFb0.out (HBV.out.trans (hb.mono HBV.out.size)) hlow)
 have HEq : Hid (fileE S c x = if beE c.ow x.call x.by_ ≠ 0 then beE c.ow x.call x.by_
  else if tuE x.tube ≠ 0 then tuE x.tube
  else if x.wake < 0 ∨ 3 < x.wake ∨ x.slot < 0 ∨ 200000 < x.slot then 4
  else if fstT x.tube < x.time then 12
  else if 3600 < lstT x.tube - fstT x.tube then 2
  else if clashP S c.fl x.call x.tube = true then 15
  else if x.lands = true ∧ x.slot < landP S c.fl x.call x.wake x.tube then 18 else 0) := Lib.hid rfl
 have HFh := Lib.hid h.fh
 have HFv0 : Hid (y.fh.v = .slice y.fh.A y.fh.n y.fh.c) := Lib.hid rfl
 obtain ⟨oA, hoA⟩ : ∃ oA, y.oh.A = oA := ⟨_, rfl⟩
 obtain ⟨on, hon⟩ : ∃ on, y.oh.n = on := ⟨_, rfl⟩
 obtain ⟨oc, hoc⟩ : ∃ oc, y.oh.c = oc := ⟨_, rfl⟩
 obtain ⟨fA, hfA⟩ : ∃ fA, y.fh.A = fA := ⟨_, rfl⟩
 obtain ⟨fc, hfc⟩ : ∃ fc, y.fh.c = fc := ⟨_, rfl⟩
 obtain ⟨nf, hnf⟩ : ∃ nf, y.fh.n = nf := ⟨_, rfl⟩
 rw [hoA, hon, hoc] at HBe
 rw [hoA, hon, hoc, hfA, hfc, hnf] at HCe
 rw [hfA, hfc, hnf] at HIns HFN
 rw [hnf] at HFh
 have HFv : Hid (y.fh.v = .slice fA nf fc) := Lib.hid (by rw [HFv0.out, hfA, hnf, hfc])
 unfold inpV
 unfold inpO at hgB hV HV HBx
 have HXc := Lib.hid (fun (W : World) (hb : Below V.heap.size V W) => (show W.cell? ⟨w.heap.size, 1, none⟩ = some (.int .i64 x.time) ∧ W.cell? ⟨w.heap.size, 2, none⟩ = some (.string x.call) ∧ W.cell? ⟨w.heap.size, 3, none⟩ = some (.string x.by_) ∧ W.cell? ⟨w.heap.size, 5, none⟩ = some (.slice A n cA) ∧ W.cell? ⟨w.heap.size, 6, none⟩ = some (.int .i64 x.wake) ∧ W.cell? ⟨w.heap.size, 7, none⟩ = some (.int .i64 x.slot) ∧ W.cell? ⟨w.heap.size, 8, none⟩ = some (.bool x.lands) from
  ⟨cell_of_row _ _ 1 _ _ _ (HBx.out W hb), cell_of_row _ _ 2 _ _ _ (HBx.out W hb), cell_of_row _ _ 3 _ _ _ (HBx.out W hb), cell_of_row _ _ 5 _ _ _ (HBx.out W hb), cell_of_row _ _ 6 _ _ _ (HBx.out W hb), cell_of_row _ _ 7 _ _ _ (HBx.out W hb), cell_of_row _ _ 8 _ _ _ (HBx.out W hb)⟩))
 have HNn : Hid (n = x.tube.length) := Lib.hid hT.1.symm
 have HS1 := Lib.hid (fun (W : World) (hb : Below V.heap.size V W) => (show Below V.heap.size V W ∧ W.cell? ⟨g, 20, none⟩ = some (.slice oA on oc) ∧ W.cell? ⟨w.heap.size, 2, none⟩ = some (.string x.call) ∧ W.cell? ⟨w.heap.size, 3, none⟩ = some (.string x.by_) from ⟨hb, (HCe.out W hb).1, (HXc.out W hb).2.1, (HXc.out W hb).2.2.1⟩))
 have c20 := (HCe.out V (Below.refl _ _)).1
 obtain ⟨x1, x2, x3, x5, x6, x7, x8⟩ := HXc.out V (Below.refl _ _)
 have HHf := Lib.hid (And.intro hlow hf24)
 clear x1 x5 x6 x7 x8 hoA hon hoc hfA hfc hnf hR h hok hMV hgB hbV hzV hT hn hs1 hs2 hon24 h20 hlow hf24
 obtain ⟨be, hbe⟩ : ∃ be, beE c.ow x.call x.by_ = be := ⟨_, rfl⟩
 rw [hbe] at HBe HEq
 clear hbe
 by_cases q0 : be ≠ 0
 ·have e0 : (be == 0) = false := by rw [beq_eq_false_iff_ne]; exact q0
  have e0n : (be != 0) = true := by simpa using q0
  have HN := Lib.hid (fun W hb => (HBe.out W hb).1 q0)
  unfold NoP at HN
  rw [if_pos q0] at HEq
  have HQ0 := Lib.hid q0
  clear HBe q0
  go_enter Tryz.func63, Tryz.ntmps63
  go_upto_region 1 with (fail)
  have r20 := cell_regrown c20
  have r2 := cell_regrown x2
  have r3 := cell_regrown x3
  clear c20 x2 x3
  refine wp_region_quiet_below (by kernel_rfl) (by kernel_rfl) ?_
  repeat (go_big_quiet_step ((go_at_call 103; exact (HN.out _ (below_regrown V _ _)).regrown_of)))
  refine wpQuiet_nil ?_
  intro wz hwz
  have hbz : Below V.heap.size V wz := by obtain ⟨⟨dq, osq⟩, rfl⟩ := hwz; exact below_regrown _ _ _
  clear hwz r20 r2 r3
  go_wp2_with fail
  (try go_ret)
  exact HNo.out be _ _ HQ0.out HEq.out hbz rfl
 have HY := Lib.hid (fun W hb => (HBe.out W hb).2 (Decidable.not_not.1 q0))
 unfold YesP at HY
 rw [if_neg q0] at HEq
 clear HBe q0
 go_enter Tryz.func63, Tryz.ntmps63
 go_upto_region 1 with (fail)
 go_region_held3 (fun W => Below V.heap.size V W ∧ W.cell? ⟨g, 20, none⟩ = some (.slice oA on oc) ∧ W.cell? ⟨w.heap.size, 2, none⟩ = some (.string x.call) ∧ W.cell? ⟨w.heap.size, 3, none⟩ = some (.string x.by_)) (first | assumption | exact (Below.refl _ _).drew | exact HS1.out _ (Below.refl _ _).drew | exact HS1.out _ (by assumption)) ((go_at_call 103; go_loud (refine (HY.out _ (by first | assumption | exact (Below.refl _ _).drew)).mono ?_; rintro e w1 ⟨A1, c1, rfl, ho, hb1⟩; have hb2 : Below V.heap.size V w1 := ((Below.refl V.heap.size V).drew).trans hb1; have HO := Lib.hid ho; clear ho)))
 have HB1 := Lib.hid hb2
 obtain ⟨x1, x2', x3', x5, x6, x7, x8⟩ := HXc.out w1 hb2
 clear hb1 hb2 c20 x2 x3
 have HC2 := Lib.hid (HCk.out w1 HB1.out)
 obtain ⟨te, hte⟩ : ∃ te, tuE x.tube = te := ⟨_, rfl⟩
 rw [hte] at HEq HC2
 have HTe := Lib.hid hte
 clear hte
 go_upto_region 5 with ((go_at_call 47; go_loud (refine HC2.out.mono ?_; rintro e w3 ⟨rfl, hb3⟩; have hb4 : Below V.heap.size V w3 := HB1.out.trans (hb3.mono HB1.out.size); have HB13 := Lib.hid hb3; have HB3 := Lib.hid hb4; obtain ⟨y1, y2, y3, y5, y6, y7, y8⟩ := HXc.out w3 hb4; clear hb3 hb4)))
 clear x1 x2' x3' x5 x6 x7 x8
 by_cases q4 : te ≠ 0
 ·have e4 : (te == 0) = false := by rw [beq_eq_false_iff_ne]; exact q4
  have e4n : (te != 0) = true := by simpa using q4
  rw [if_pos q4] at HEq
  have HQ := Lib.hid q4
  clear q4
  go_wp2_with fail
  (try go_ret)
  exact HNo.out te _ _ HQ.out HEq.out HB3.out rfl
 rw [if_neg q4] at HEq
 obtain rfl : te = 0 := Decidable.not_not.1 q4
 clear q4
 have HTok : Hid (TuOk x.tube) := Lib.hid (tuOk_of HTe.out)
 have hn0 : 0 < n := by rw [HNn.out]; exact HTok.out.n0
 have hn64 : n ≤ 64 := by rw [HNn.out]; exact HTok.out.n1
 have HFxB := Lib.hid (fun (W : World) (hb : Below V.heap.size V W) => (first_any A n cA x.tube W (HTu.out W hb) hn0).mono fun e W2 hh => (show e = .returned (.int .i64 (fstT x.tube)) ∧ Below W.heap.size W W2 from ⟨hh.1, by rw [hh.2]; exact Below.refl _ _⟩))
 have HLxB := Lib.hid (fun (W : World) (hb : Below V.heap.size V W) => (last_any A n cA x.tube W (HTu.out W hb) hn0 hn64).mono fun e W2 hh => (show e = .returned (.int .i64 (lstT x.tube)) ∧ Below W.heap.size W W2 from ⟨hh.1, by rw [hh.2]; exact Below.refl _ _⟩))
 obtain ⟨fx, hfx⟩ : ∃ fx, fstT x.tube = fx := ⟨_, rfl⟩
 obtain ⟨lx, hlx⟩ : ∃ lx, lstT x.tube = lx := ⟨_, rfl⟩
 have bx0 : 0 ≤ fx := by rw [← hfx]; exact HTok.out.fst0
 have bx1 : fx ≤ 200000 := by rw [← hfx]; exact HTok.out.fst1
 have bx2 : 0 ≤ lx := by rw [← hlx]; exact HTok.out.lst0
 have bx3 : lx ≤ 200000 := by rw [← hlx]; exact HTok.out.lst1
 rw [hfx, hlx] at HEq
 rw [hfx] at HFxB
 rw [hlx] at HLxB
 clear hfx hlx
 go_upto_region 7 with (fail)
 by_cases qa : x.wake < 0
 ·have eqa : decide (x.wake < 0) = true := decide_eq_true qa
  rw [if_pos (.inl qa)] at HEq
  clear qa
  go_wp2_with fail
  (try go_ret)
  exact HNo.out 4 _ _ (by decide) HEq.out HB3.out rfl
 have eqa : decide (x.wake < 0) = false := decide_eq_false qa
 by_cases qb : 3 < x.wake
 ·have eqb : decide (3 < x.wake) = true := decide_eq_true qb
  rw [if_pos (.inr (.inl qb))] at HEq
  clear qa qb
  go_wp2_with fail
  (try go_ret)
  exact HNo.out 4 _ _ (by decide) HEq.out HB3.out rfl
 have eqb : decide (3 < x.wake) = false := decide_eq_false qb
 by_cases qc : x.slot < 0
 ·have eqc : decide (x.slot < 0) = true := decide_eq_true qc
  rw [if_pos (.inr (.inr (.inl qc)))] at HEq
  clear qa qb qc
  go_wp2_with fail
  (try go_ret)
  exact HNo.out 4 _ _ (by decide) HEq.out HB3.out rfl
 have eqc : decide (x.slot < 0) = false := decide_eq_false qc
 by_cases qd : 200000 < x.slot
 ·have eqd : decide (200000 < x.slot) = true := decide_eq_true qd
  rw [if_pos (.inr (.inr (.inr qd)))] at HEq
  clear qa qb qc qd
  go_wp2_with fail
  (try go_ret)
  exact HNo.out 4 _ _ (by decide) HEq.out HB3.out rfl
 have eqd : decide (200000 < x.slot) = false := decide_eq_false qd
 rw [if_neg (fun h => h.elim qa (fun h => h.elim qb (fun h => h.elim qc qd)))] at HEq
 have HWk : Hid (0 ≤ x.wake ∧ x.wake ≤ 3) := Lib.hid (by omega)
 clear qa qb qc qd
 by_cases q5 : fx < x.time
 ·have e5 : decide (fx < x.time) = true := decide_eq_true q5
  rw [if_pos q5] at HEq
  clear q5
  go_upto_region 9 with (fail)
  have r5 := cell_regrown y5
  have r1 := cell_regrown y1
  clear y1 y2 y3 y5 y6 y7 y8
  refine wp_region_quiet_below (by kernel_rfl) (by kernel_rfl) ?_
  repeat (go_big_quiet_step ((go_at_call 82; exact (HFxB.out _ (HB3.out.trans ((below_regrown w3 _ _).mono HB3.out.size))).regrown_of)))
  refine wpQuiet_nil ?_
  intro w4 hwz
  have hb34 : Below w3.heap.size w3 w4 := by obtain ⟨⟨dq, osq⟩, rfl⟩ := hwz; exact below_regrown _ _ _
  have HB4 := Lib.hid (HB3.out.trans (hb34.mono HB3.out.size))
  have HB14 := Lib.hid (bstep HB13.out hb34)
  obtain ⟨y1, y2, y3, y5, y6, y7, y8⟩ := HXc.out w4 HB4.out
  clear hwz hb34 r5 r1
  go_wp2_with fail
  (try go_ret)
  exact HNo.out 12 _ _ (by decide) HEq.out HB4.out rfl
 have e5 : decide (fx < x.time) = false := decide_eq_false q5
 rw [if_neg q5] at HEq
 clear q5
 go_upto_region 9 with (fail)
 have r5 := cell_regrown y5
 have r1 := cell_regrown y1
 clear y1 y2 y3 y5 y6 y7 y8
 refine wp_region_quiet_below (by kernel_rfl) (by kernel_rfl) ?_
 repeat (go_big_quiet_step ((go_at_call 82; exact (HFxB.out _ (HB3.out.trans ((below_regrown w3 _ _).mono HB3.out.size))).regrown_of)))
 refine wpQuiet_nil ?_
 intro w4 hwz
 have hb34 : Below w3.heap.size w3 w4 := by obtain ⟨⟨dq, osq⟩, rfl⟩ := hwz; exact below_regrown _ _ _
 have HB4 := Lib.hid (HB3.out.trans (hb34.mono HB3.out.size))
 have HB14 := Lib.hid (bstep HB13.out hb34)
 obtain ⟨y1, y2, y3, y5, y6, y7, y8⟩ := HXc.out w4 HB4.out
 clear hwz hb34 r5 r1
 have hws : IntKind.i64.wrap (lx - fx) = lx - fx := IntWalk.i64_in _ (by omega)
 by_cases q6 : 3600 < lx - fx
 ·have e6 : decide (3600 < lx - fx) = true := decide_eq_true q6
  rw [if_pos q6] at HEq
  clear q6
  go_upto_region 11 with (fail)
  have r5 := cell_regrown y5
  clear y1 y2 y3 y5 y6 y7 y8
  refine wp_region_quiet_below (by kernel_rfl) (by kernel_rfl) ?_
  repeat (go_big_quiet_step (first
   | (go_at_call 82; exact (HFxB.out _ (HB4.out.trans ((below_regrown w4 _ _).mono HB4.out.size))).regrown_of)
   | (go_at_call 104; exact (HLxB.out _ (HB4.out.trans ((below_regrown w4 _ _).mono HB4.out.size))).regrown_of)))
  refine wpQuiet_nil ?_
  intro w5 hwz
  have hb45 : Below w4.heap.size w4 w5 := by obtain ⟨⟨dq, osq⟩, rfl⟩ := hwz; exact below_regrown _ _ _
  have HB5 := Lib.hid (HB4.out.trans (hb45.mono HB4.out.size))
  have HB15 := Lib.hid (bstep HB14.out hb45)
  obtain ⟨y1, y2, y3, y5, y6, y7, y8⟩ := HXc.out w5 HB5.out
  clear hwz hb45 r5
  go_wp2_with fail
  (try go_ret)
  exact HNo.out 2 _ _ (by decide) HEq.out HB5.out rfl
 have e6 : decide (3600 < lx - fx) = false := decide_eq_false q6
 rw [if_neg q6] at HEq
 clear q6
 go_upto_region 11 with (fail)
 have r5 := cell_regrown y5
 clear y1 y2 y3 y5 y6 y7 y8
 refine wp_region_quiet_below (by kernel_rfl) (by kernel_rfl) ?_
 repeat (go_big_quiet_step (first
  | (go_at_call 82; exact (HFxB.out _ (HB4.out.trans ((below_regrown w4 _ _).mono HB4.out.size))).regrown_of)
  | (go_at_call 104; exact (HLxB.out _ (HB4.out.trans ((below_regrown w4 _ _).mono HB4.out.size))).regrown_of)))
 refine wpQuiet_nil ?_
 intro w5 hwz
 have hb45 : Below w4.heap.size w4 w5 := by obtain ⟨⟨dq, osq⟩, rfl⟩ := hwz; exact below_regrown _ _ _
 have HB5 := Lib.hid (HB4.out.trans (hb45.mono HB4.out.size))
 have HB15 := Lib.hid (bstep HB14.out hb45)
 obtain ⟨y1, y2, y3, y5, y6, y7, y8⟩ := HXc.out w5 HB5.out
 clear hwz hb45 r5
 have HCl := Lib.hid (HClash.out w5 HB5.out HTok.out (by rw [← HNn.out]; exact HTu.out w5 HB5.out))
 rw [← HNn.out] at HCl
 obtain ⟨cb, hcb⟩ : ∃ cb, clashP S c.fl x.call x.tube = cb := ⟨_, rfl⟩
 rw [hcb] at HCl HEq
 clear hcb
 cases cb with
 | true =>
  rw [if_pos rfl] at HEq
  go_wp2_with ((go_at_call 105; go_loud (refine HCl.out.mono ?_; rintro e w8 ⟨rfl, hb8⟩; have hb9 : Below V.heap.size V w8 := HB5.out.trans (hb8.mono HB5.out.size); have HB8 := Lib.hid hb9; clear hb8 hb9)))
  (try go_ret)
  exact HNo.out 15 _ _ (by decide) HEq.out HB8.out rfl
 | false =>
 rw [if_neg (by decide)] at HEq
 go_upto_region 15 with ((go_at_call 105; go_loud (refine HCl.out.mono ?_; rintro e w6 ⟨rfl, hb8⟩; have hb9 : Below V.heap.size V w6 := HB5.out.trans (hb8.mono HB5.out.size); have HB6 := Lib.hid hb9; have HB16 := Lib.hid (bstep HB15.out hb8); clear hb8 hb9)))
 clear y1 y2 y3 y5 y6 y7 y8
 have HClo := Lib.hid (fun (W : World) (hb : Below V.heap.size V W) => CloneT_any cA (HTu.out W hb) (by omega))
 have HS6 := Lib.hid (fun (W : World) (hb : Below w6.heap.size w6 W) => (show Below w6.heap.size w6 W ∧ W.cell? ⟨w.heap.size, 2, none⟩ = some (.string x.call) ∧ W.cell? ⟨w.heap.size, 5, none⟩ = some (.slice A n cA) ∧ W.cell? ⟨w.heap.size, 6, none⟩ = some (.int .i64 x.wake) ∧ W.cell? ⟨w.heap.size, 7, none⟩ = some (.int .i64 x.slot) ∧ W.cell? ⟨w.heap.size, 8, none⟩ = some (.bool x.lands) from by
  obtain ⟨z1, z2, z3, z5, z6, z7, z8⟩ := HXc.out W (HB6.out.trans (hb.mono HB6.out.size))
  exact ⟨hb, z2, z5, z6, z7, z8⟩))
 have HBV6 : Hid (w.heap.size < w6.heap.size) := Lib.hid (by have := HB6.out.size; have := HZV.out; omega)
 have hzw6 := HBV6.out
 go_cut [8] from 74 to 124 (fun s8 wx => ∃ T8 bS A2 c2, s8 = .pointer (some ⟨T8, 0, none⟩) ∧ w6.heap.size ≤ T8 ∧ NewFl w x T8 bS A2 c2 0 wx ∧ Below w6.heap.size w6 wx)
 case first =>
  refine wp_region_held_drew (S := (fun W => Below w6.heap.size w6 W ∧ W.cell? ⟨w.heap.size, 2, none⟩ = some (.string x.call) ∧ W.cell? ⟨w.heap.size, 5, none⟩ = some (.slice A n cA) ∧ W.cell? ⟨w.heap.size, 6, none⟩ = some (.int .i64 x.wake) ∧ W.cell? ⟨w.heap.size, 7, none⟩ = some (.int .i64 x.slot) ∧ W.cell? ⟨w.heap.size, 8, none⟩ = some (.bool x.lands))) (by kernel_rfl) (HS6.out _ (Below.refl _ _).drew) (fun hHeld => ?_)
  refine wpAnyH_take (i := 0) (oi := ⟨some 74, _, _, _, _, _⟩) (v := ?v0_1) rfl (by kernel_rfl) (by kernel_rfl) (by kernel_rfl) (fun _ _ _ h => h) (Or.inl ⟨by rfl, ?y0_1⟩) hHeld ?r0_1
  case y0_1 => (intro W hSw; (try dsimp only at hSw); go_simp; try with_reducible rfl)
  try simp only [Act.put, zI, zO, zS]
  refine wpAnyH_take (i := 1) (oi := ⟨some 75, _, _, _, _, _⟩) (v := ?v1_2) rfl (by kernel_rfl) (by kernel_rfl) (by kernel_rfl) (fun _ _ _ h => h) (Or.inl ⟨by rfl, ?y1_2⟩) hHeld ?r1_2
  case y1_2 => (intro W hSw; (try dsimp only at hSw); go_simp; try with_reducible rfl)
  try simp only [Act.put, zI, zO, zS]
  refine wpAnyH_take (i := 2) (oi := ⟨some 76, _, _, _, _, _⟩) (v := ?v2_3) rfl (by kernel_rfl) (by kernel_rfl) (by kernel_rfl) (fun _ _ _ h => h) (Or.inl ⟨by rfl, ?y2_3⟩) hHeld ?r2_3
  case y2_3 => (intro W hSw; (try dsimp only at hSw); go_simp; try with_reducible rfl)
  try simp only [Act.put, zI, zO, zS]
  refine wpAnyH_take (i := 3) (oi := ⟨some 77, _, _, _, _, _⟩) (v := ?v3_4) rfl (by kernel_rfl) (by kernel_rfl) (by kernel_rfl) (fun _ _ _ h => h) (Or.inl ⟨by rfl, ?y3_4⟩) hHeld ?r3_4
  case y3_4 => (intro W hSw; (try dsimp only at hSw); go_simp; try with_reducible rfl)
  try simp only [Act.put, zI, zO, zS]
  refine wpAnyH_take (i := 4) (oi := ⟨some 78, _, _, _, _, _⟩) (v := ?v4_5) rfl (by kernel_rfl) (by kernel_rfl) (by kernel_rfl) (fun _ _ _ h => h) (Or.inl ⟨by rfl, ?y4_5⟩) hHeld ?r4_5
  case y4_5 => (intro W hSw; (try dsimp only at hSw); go_simp; try with_reducible rfl)
  try simp only [Act.put, zI, zO, zS]
  refine wpAnyH_take (i := 5) (oi := ⟨some 79, _, _, _, _, _⟩) (v := ?v5_6) rfl (by kernel_rfl) (by kernel_rfl) (by kernel_rfl) (fun _ _ _ h => h) (Or.inl ⟨by rfl, ?y5_6⟩) hHeld ?r5_6
  case y5_6 => (intro W hSw; (try dsimp only at hSw); go_simp; try with_reducible rfl)
  try simp only [Act.put, zI, zO, zS]
  refine wpAnyH_take (i := 6) (oi := ⟨some 80, _, _, _, _, _⟩) (v := ?v6_7) rfl (by kernel_rfl) (by kernel_rfl) (by kernel_rfl) (fun _ _ _ h => h) (Or.inl ⟨by rfl, ?y6_7⟩) hHeld ?r6_7
  case y6_7 => (intro W hSw; (try dsimp only at hSw); go_simp; try with_reducible rfl)
  try simp only [Act.put, zI, zO, zS]
  refine wpAnyH_take (i := 7) (oi := ⟨some 81, _, _, _, _, _⟩) (v := ?v7_8) rfl (by kernel_rfl) (by kernel_rfl) (by kernel_rfl) (fun _ _ _ h => h) (Or.inl ⟨by rfl, ?y7_8⟩) hHeld ?r7_8
  case y7_8 => (intro W hSw; (try dsimp only at hSw); go_simp; try with_reducible rfl)
  try simp only [Act.put, zI, zO, zS]
  refine wpAnyH_take (i := 8) (oi := ⟨some 82, _, _, _, _, _⟩) (v := ?v8_9) rfl (by kernel_rfl) (by kernel_rfl) (by kernel_rfl) (fun _ _ _ h => h) (Or.inl ⟨by rfl, ?y8_9⟩) hHeld ?r8_9
  case y8_9 => (intro W hSw; (try dsimp only at hSw); go_simp; try with_reducible rfl)
  try simp only [Act.put, zI, zO, zS]
  refine wpAnyH_take (i := 9) (oi := ⟨some 83, _, _, _, _, _⟩) (v := ?v9_10) rfl (by kernel_rfl) (by kernel_rfl) (by kernel_rfl) (fun _ _ _ h => h) (Or.inl ⟨by rfl, ?y9_10⟩) hHeld ?r9_10
  case y9_10 => (intro W hSw; (try dsimp only at hSw); go_simp; try with_reducible rfl)
  try simp only [Act.put, zI, zO, zS]
  obtain ⟨V0, hV0⟩ : ∃ V, w6.drew = V := ⟨_, rfl⟩
  rw [hV0]
  have HV0 := Lib.hid (show Below w6.heap.size w6 V0 by rw [← hV0]; exact (Below.refl _ _).drew)
  have hzV0 := HV0.out.size
  clear hV0
  refine wpAnyH_ready (rs := [10, 13]) (by kernel_rfl) (by simp) ?_
  refine (AllReadyH.cons (o := ⟨some 84, _, _, _, _, _⟩) rfl (fun K hK => ?_) (AllReadyH.cons (o := ⟨some 8, _, _, _, _, _⟩) rfl (fun K hK => ?_) AllReadyH.nil))
  ·go_simp
   go_at_call 46
   refine (HClo.out V0 (HB6.out.trans (HV0.out.mono HB6.out.size))).mono ?_
   rintro E W1 ⟨v, rfl, ho, hb⟩
   obtain ⟨A2, c2, rfl⟩ := own_shape ho
   have hz1 := hb.size
   have HW1 := Lib.hid (HV0.out.trans (hb.mono HV0.out.size))
   have U1 := Lib.hid (own_mono ho (show w.heap.size ≤ V0.heap.size by omega))
   refine hK.out _ _ (HS6.out _ HW1.out) (fun hHeld => ?_)
   clear hK K hb ho
   try simp only [Act.put, zI, zO, zS]
   refine wpAnyH_ready (rs := [11, 13]) (by kernel_rfl) (by simp) ?_
   refine (AllReadyH.cons (o := ⟨some 85, _, _, _, _, _⟩) rfl (fun K hK => ?_) (AllReadyH.cons (o := ⟨some 8, _, _, _, _, _⟩) rfl (fun K hK => ?_) AllReadyH.nil))
   ·go_simp
    obtain ⟨W2, hW2⟩ : ∃ V, W1.alloc (.cells #[.slice A2 n c2] 44) = V := ⟨_, rfl⟩
    rw [hW2]
    have hz2 : W1.heap.size < W2.heap.size := by rw [← hW2, size_al]; omega
    have HW2 := Lib.hid (show Below w6.heap.size w6 W2 by rw [← hW2]; exact below_al HW1.out _)
    have U2 := Lib.hid (show W2.ownsRow w.heap.size 52 6 (.slice A2 n c2) n (rowsV ndV x.tube) by rw [← hW2]; exact U1.out.alloc _)
    have s2 := Lib.hid (show W2.heap[W1.heap.size]? = some (.cells #[.slice A2 n c2] 44 (0, 0)) by rw [← hW2]; exact heap_alloc_new _ _)
    refine hK.out _ _ (HS6.out _ HW2.out) (fun hHeld => ?_)
    clear hK K hW2
    try simp only [Act.put, zI, zO, zS]
    refine wpAnyH_take (i := 12) (oi := ⟨some 86, _, _, _, _, _⟩) (v := ?v12_11) rfl (by kernel_rfl) (by kernel_rfl) (by kernel_rfl) (fun _ _ _ h => h) (Or.inl ⟨by rfl, ?y12_11⟩) hHeld ?r12_11
    case y12_11 => (intro W hSw; (try dsimp only at hSw); go_simp; try with_reducible rfl)
    try simp only [Act.put, zI, zO, zS]
    refine wpAnyH_ready (rs := [13]) (by kernel_rfl) (by simp) ?_
    refine (AllReadyH.cons (o := ⟨some 8, _, _, _, _, _⟩) rfl (fun K hK => ?_) AllReadyH.nil)
    ·go_simp
     obtain ⟨W3, hW3⟩ : ∃ V, W2.alloc (.cells #[.string ByteArray.empty, .int .i64 0, .int .i64 0, .bool false, .slice none 0 0, .slice none 0 0, .int .i64 0, .int .i64 0] 46) = V := ⟨_, rfl⟩
     (try rw [show (ByteArray.empty : ByteArray) = { data := #[] } from rfl] at hW3)
     rw [hW3]
     (try rw [show ({ data := #[] } : ByteArray) = ByteArray.empty from rfl] at hW3)
     have hz3 : W2.heap.size < W3.heap.size := by rw [← hW3, size_al]; omega
     have HW3 := Lib.hid (show Below w6.heap.size w6 W3 by rw [← hW3]; exact below_al HW2.out _)
     have s3 := Lib.hid ((show W3.heap[W1.heap.size]? = W2.heap[W1.heap.size]? by rw [← hW3]; exact al_old2 _ _ (by omega)).trans s2.out)
     have U3 := Lib.hid (show W3.ownsRow w.heap.size 52 6 (.slice A2 n c2) n (rowsV ndV x.tube) by rw [← hW3]; exact U2.out.alloc _)
     have t3 := Lib.hid (show W3.heap[W2.heap.size]? = some (.cells #[.string ByteArray.empty, .int .i64 0, .int .i64 0, .bool false, .slice none 0 0, .slice none 0 0, .int .i64 0, .int .i64 0] 46 (0, 0)) by rw [← hW3]; exact heap_alloc_new _ _)
     refine hK.out _ _ (HS6.out _ HW3.out) (fun hHeld => ?_)
     clear hK K hW3
     try simp only [Act.put, zI, zO, zS]
     have e4_0 := cell_of_row W3 _ 0 _ 46 (0, 0) t3.out
     have e4_1 := cell_of_row W3 _ 1 _ 46 (0, 0) t3.out
     have e4_2 := cell_of_row W3 _ 2 _ 46 (0, 0) t3.out
     have e4_3 := cell_of_row W3 _ 3 _ 46 (0, 0) t3.out
     have e4_4 := cell_of_row W3 _ 4 _ 46 (0, 0) t3.out
     have e4_5 := cell_of_row W3 _ 5 _ 46 (0, 0) t3.out
     have e4_6 := cell_of_row W3 _ 6 _ 46 (0, 0) t3.out
     have e4_7 := cell_of_row W3 _ 7 _ 46 (0, 0) t3.out
     have f4_0 := frozen_of_row W3 _ 0 _ 46 t3.out
     have f4_1 := frozen_of_row W3 _ 1 _ 46 t3.out
     have f4_2 := frozen_of_row W3 _ 2 _ 46 t3.out
     have f4_3 := frozen_of_row W3 _ 3 _ 46 t3.out
     have f4_4 := frozen_of_row W3 _ 4 _ 46 t3.out
     have f4_5 := frozen_of_row W3 _ 5 _ 46 t3.out
     have f4_6 := frozen_of_row W3 _ 6 _ 46 t3.out
     have f4_7 := frozen_of_row W3 _ 7 _ 46 t3.out
     simp only [List.getElem?_toArray, List.getElem?_cons_zero, List.getElem?_cons_succ] at e4_0 e4_1 e4_2 e4_3 e4_4 e4_5 e4_6 e4_7
     refine wpAnyH_ready (rs := [14]) (by kernel_rfl) (by simp) ?_
     refine AllReadyH.cons (o := ⟨none, _, _, _, _, _⟩) rfl (fun K hK => ?_) AllReadyH.nil
     go_simp
     have hNF := newfl_store (w := w) (x := x) (W := W3) (T8 := W2.heap.size) (bS := W1.heap.size) (A2 := A2) (c2 := c2) HNn.out t3.out s3.out U3.out HBV6.out (by omega) (by omega) (by omega)
     have hBF := below_s8 (a := w6) (W := W3) (T := W2.heap.size) HW3.out (by omega) (.string x.call) (.int .i64 x.wake) (.int .i64 x.slot) (.bool x.lands) (.slice (some ⟨W1.heap.size, 0, none⟩) 1 1) (.slice none 0 0) (.int .i64 0) (.int .i64 0)
     refine hK.out _ _ (HS6.out _ hBF) (fun hHeld => ?_)
     clear hK K hHeld e4_0 f4_0 e4_1 f4_1 e4_2 f4_2 e4_3 f4_3 e4_4 f4_4 e4_5 f4_5 e4_6 f4_6 e4_7 f4_7
     try simp only [Act.put, zI, zO, zS]
     refine wpAnyH_done (by kernel_rfl) ?_ _
     go_wp2_with fail
     go_meet
     case rel => exact ⟨W2.heap.size, W1.heap.size, A2, c2, rfl, by omega, hNF, hBF⟩
   ·go_simp
    obtain ⟨W5, hW5⟩ : ∃ V, W1.alloc (.cells #[.string ByteArray.empty, .int .i64 0, .int .i64 0, .bool false, .slice none 0 0, .slice none 0 0, .int .i64 0, .int .i64 0] 46) = V := ⟨_, rfl⟩
    (try rw [show (ByteArray.empty : ByteArray) = { data := #[] } from rfl] at hW5)
    rw [hW5]
    (try rw [show ({ data := #[] } : ByteArray) = ByteArray.empty from rfl] at hW5)
    have hz5 : W1.heap.size < W5.heap.size := by rw [← hW5, size_al]; omega
    have HW5 := Lib.hid (show Below w6.heap.size w6 W5 by rw [← hW5]; exact below_al HW1.out _)
    have U5 := Lib.hid (show W5.ownsRow w.heap.size 52 6 (.slice A2 n c2) n (rowsV ndV x.tube) by rw [← hW5]; exact U1.out.alloc _)
    have t5 := Lib.hid (show W5.heap[W1.heap.size]? = some (.cells #[.string ByteArray.empty, .int .i64 0, .int .i64 0, .bool false, .slice none 0 0, .slice none 0 0, .int .i64 0, .int .i64 0] 46 (0, 0)) by rw [← hW5]; exact heap_alloc_new _ _)
    refine hK.out _ _ (HS6.out _ HW5.out) (fun hHeld => ?_)
    clear hK K hW5
    try simp only [Act.put, zI, zO, zS]
    refine wpAnyH_ready (rs := [11]) (by kernel_rfl) (by simp) ?_
    refine (AllReadyH.cons (o := ⟨some 85, _, _, _, _, _⟩) rfl (fun K hK => ?_) AllReadyH.nil)
    ·go_simp
     obtain ⟨W6, hW6⟩ : ∃ V, W5.alloc (.cells #[.slice A2 n c2] 44) = V := ⟨_, rfl⟩
     rw [hW6]
     have hz6 : W5.heap.size < W6.heap.size := by rw [← hW6, size_al]; omega
     have HW6 := Lib.hid (show Below w6.heap.size w6 W6 by rw [← hW6]; exact below_al HW5.out _)
     have t6 := Lib.hid ((show W6.heap[W1.heap.size]? = W5.heap[W1.heap.size]? by rw [← hW6]; exact al_old2 _ _ (by omega)).trans t5.out)
     have U6 := Lib.hid (show W6.ownsRow w.heap.size 52 6 (.slice A2 n c2) n (rowsV ndV x.tube) by rw [← hW6]; exact U5.out.alloc _)
     have s6 := Lib.hid (show W6.heap[W5.heap.size]? = some (.cells #[.slice A2 n c2] 44 (0, 0)) by rw [← hW6]; exact heap_alloc_new _ _)
     refine hK.out _ _ (HS6.out _ HW6.out) (fun hHeld => ?_)
     clear hK K hW6
     try simp only [Act.put, zI, zO, zS]
     refine wpAnyH_take (i := 12) (oi := ⟨some 86, _, _, _, _, _⟩) (v := ?v12_12) rfl (by kernel_rfl) (by kernel_rfl) (by kernel_rfl) (fun _ _ _ h => h) (Or.inl ⟨by rfl, ?y12_12⟩) hHeld ?r12_12
     case y12_12 => (intro W hSw; (try dsimp only at hSw); go_simp; try with_reducible rfl)
     try simp only [Act.put, zI, zO, zS]
     have e7_0 := cell_of_row W6 _ 0 _ 46 (0, 0) t6.out
     have e7_1 := cell_of_row W6 _ 1 _ 46 (0, 0) t6.out
     have e7_2 := cell_of_row W6 _ 2 _ 46 (0, 0) t6.out
     have e7_3 := cell_of_row W6 _ 3 _ 46 (0, 0) t6.out
     have e7_4 := cell_of_row W6 _ 4 _ 46 (0, 0) t6.out
     have e7_5 := cell_of_row W6 _ 5 _ 46 (0, 0) t6.out
     have e7_6 := cell_of_row W6 _ 6 _ 46 (0, 0) t6.out
     have e7_7 := cell_of_row W6 _ 7 _ 46 (0, 0) t6.out
     have f7_0 := frozen_of_row W6 _ 0 _ 46 t6.out
     have f7_1 := frozen_of_row W6 _ 1 _ 46 t6.out
     have f7_2 := frozen_of_row W6 _ 2 _ 46 t6.out
     have f7_3 := frozen_of_row W6 _ 3 _ 46 t6.out
     have f7_4 := frozen_of_row W6 _ 4 _ 46 t6.out
     have f7_5 := frozen_of_row W6 _ 5 _ 46 t6.out
     have f7_6 := frozen_of_row W6 _ 6 _ 46 t6.out
     have f7_7 := frozen_of_row W6 _ 7 _ 46 t6.out
     simp only [List.getElem?_toArray, List.getElem?_cons_zero, List.getElem?_cons_succ] at e7_0 e7_1 e7_2 e7_3 e7_4 e7_5 e7_6 e7_7
     refine wpAnyH_ready (rs := [14]) (by kernel_rfl) (by simp) ?_
     refine AllReadyH.cons (o := ⟨none, _, _, _, _, _⟩) rfl (fun K hK => ?_) AllReadyH.nil
     go_simp
     have hNF := newfl_store (w := w) (x := x) (W := W6) (T8 := W1.heap.size) (bS := W5.heap.size) (A2 := A2) (c2 := c2) HNn.out t6.out s6.out U6.out HBV6.out (by omega) (by omega) (by omega)
     have hBF := below_s8 (a := w6) (W := W6) (T := W1.heap.size) HW6.out (by omega) (.string x.call) (.int .i64 x.wake) (.int .i64 x.slot) (.bool x.lands) (.slice (some ⟨W5.heap.size, 0, none⟩) 1 1) (.slice none 0 0) (.int .i64 0) (.int .i64 0)
     refine hK.out _ _ (HS6.out _ hBF) (fun hHeld => ?_)
     clear hK K hHeld e7_0 f7_0 e7_1 f7_1 e7_2 f7_2 e7_3 f7_3 e7_4 f7_4 e7_5 f7_5 e7_6 f7_6 e7_7 f7_7
     try simp only [Act.put, zI, zO, zS]
     refine wpAnyH_done (by kernel_rfl) ?_ _
     go_wp2_with fail
     go_meet
     case rel => exact ⟨W1.heap.size, W5.heap.size, A2, c2, rfl, by omega, hNF, hBF⟩
  ·go_simp
   obtain ⟨W8, hW8⟩ : ∃ V, V0.alloc (.cells #[.string ByteArray.empty, .int .i64 0, .int .i64 0, .bool false, .slice none 0 0, .slice none 0 0, .int .i64 0, .int .i64 0] 46) = V := ⟨_, rfl⟩
   (try rw [show (ByteArray.empty : ByteArray) = { data := #[] } from rfl] at hW8)
   rw [hW8]
   (try rw [show ({ data := #[] } : ByteArray) = ByteArray.empty from rfl] at hW8)
   have hz8 : V0.heap.size < W8.heap.size := by rw [← hW8, size_al]; omega
   have HW8 := Lib.hid (show Below w6.heap.size w6 W8 by rw [← hW8]; exact below_al HV0.out _)
   have t8 := Lib.hid (show W8.heap[V0.heap.size]? = some (.cells #[.string ByteArray.empty, .int .i64 0, .int .i64 0, .bool false, .slice none 0 0, .slice none 0 0, .int .i64 0, .int .i64 0] 46 (0, 0)) by rw [← hW8]; exact heap_alloc_new _ _)
   refine hK.out _ _ (HS6.out _ HW8.out) (fun hHeld => ?_)
   clear hK K hW8
   try simp only [Act.put, zI, zO, zS]
   refine wpAnyH_ready (rs := [10]) (by kernel_rfl) (by simp) ?_
   refine (AllReadyH.cons (o := ⟨some 84, _, _, _, _, _⟩) rfl (fun K hK => ?_) AllReadyH.nil)
   ·go_simp
    go_at_call 46
    refine (HClo.out W8 (HB6.out.trans (HW8.out.mono HB6.out.size))).mono ?_
    rintro E W9 ⟨v, rfl, ho, hb⟩
    obtain ⟨A2, c2, rfl⟩ := own_shape ho
    have hz9 := hb.size
    have HW9 := Lib.hid (HW8.out.trans (hb.mono HW8.out.size))
    have U9 := Lib.hid (own_mono ho (show w.heap.size ≤ W8.heap.size by omega))
    have t9 := Lib.hid ((hb.block (V0.heap.size) (by omega)).trans t8.out)
    refine hK.out _ _ (HS6.out _ HW9.out) (fun hHeld => ?_)
    clear hK K hb ho
    try simp only [Act.put, zI, zO, zS]
    refine wpAnyH_ready (rs := [11]) (by kernel_rfl) (by simp) ?_
    refine (AllReadyH.cons (o := ⟨some 85, _, _, _, _, _⟩) rfl (fun K hK => ?_) AllReadyH.nil)
    ·go_simp
     obtain ⟨W10, hW10⟩ : ∃ V, W9.alloc (.cells #[.slice A2 n c2] 44) = V := ⟨_, rfl⟩
     rw [hW10]
     have hz10 : W9.heap.size < W10.heap.size := by rw [← hW10, size_al]; omega
     have HW10 := Lib.hid (show Below w6.heap.size w6 W10 by rw [← hW10]; exact below_al HW9.out _)
     have t10 := Lib.hid ((show W10.heap[V0.heap.size]? = W9.heap[V0.heap.size]? by rw [← hW10]; exact al_old2 _ _ (by omega)).trans t9.out)
     have U10 := Lib.hid (show W10.ownsRow w.heap.size 52 6 (.slice A2 n c2) n (rowsV ndV x.tube) by rw [← hW10]; exact U9.out.alloc _)
     have s10 := Lib.hid (show W10.heap[W9.heap.size]? = some (.cells #[.slice A2 n c2] 44 (0, 0)) by rw [← hW10]; exact heap_alloc_new _ _)
     refine hK.out _ _ (HS6.out _ HW10.out) (fun hHeld => ?_)
     clear hK K hW10
     try simp only [Act.put, zI, zO, zS]
     refine wpAnyH_take (i := 12) (oi := ⟨some 86, _, _, _, _, _⟩) (v := ?v12_13) rfl (by kernel_rfl) (by kernel_rfl) (by kernel_rfl) (fun _ _ _ h => h) (Or.inl ⟨by rfl, ?y12_13⟩) hHeld ?r12_13
     case y12_13 => (intro W hSw; (try dsimp only at hSw); go_simp; try with_reducible rfl)
     try simp only [Act.put, zI, zO, zS]
     have e11_0 := cell_of_row W10 _ 0 _ 46 (0, 0) t10.out
     have e11_1 := cell_of_row W10 _ 1 _ 46 (0, 0) t10.out
     have e11_2 := cell_of_row W10 _ 2 _ 46 (0, 0) t10.out
     have e11_3 := cell_of_row W10 _ 3 _ 46 (0, 0) t10.out
     have e11_4 := cell_of_row W10 _ 4 _ 46 (0, 0) t10.out
     have e11_5 := cell_of_row W10 _ 5 _ 46 (0, 0) t10.out
     have e11_6 := cell_of_row W10 _ 6 _ 46 (0, 0) t10.out
     have e11_7 := cell_of_row W10 _ 7 _ 46 (0, 0) t10.out
     have f11_0 := frozen_of_row W10 _ 0 _ 46 t10.out
     have f11_1 := frozen_of_row W10 _ 1 _ 46 t10.out
     have f11_2 := frozen_of_row W10 _ 2 _ 46 t10.out
     have f11_3 := frozen_of_row W10 _ 3 _ 46 t10.out
     have f11_4 := frozen_of_row W10 _ 4 _ 46 t10.out
     have f11_5 := frozen_of_row W10 _ 5 _ 46 t10.out
     have f11_6 := frozen_of_row W10 _ 6 _ 46 t10.out
     have f11_7 := frozen_of_row W10 _ 7 _ 46 t10.out
     simp only [List.getElem?_toArray, List.getElem?_cons_zero, List.getElem?_cons_succ] at e11_0 e11_1 e11_2 e11_3 e11_4 e11_5 e11_6 e11_7
     refine wpAnyH_ready (rs := [14]) (by kernel_rfl) (by simp) ?_
     refine AllReadyH.cons (o := ⟨none, _, _, _, _, _⟩) rfl (fun K hK => ?_) AllReadyH.nil
     go_simp
     have hNF := newfl_store (w := w) (x := x) (W := W10) (T8 := V0.heap.size) (bS := W9.heap.size) (A2 := A2) (c2 := c2) HNn.out t10.out s10.out U10.out HBV6.out (by omega) (by omega) (by omega)
     have hBF := below_s8 (a := w6) (W := W10) (T := V0.heap.size) HW10.out (by omega) (.string x.call) (.int .i64 x.wake) (.int .i64 x.slot) (.bool x.lands) (.slice (some ⟨W9.heap.size, 0, none⟩) 1 1) (.slice none 0 0) (.int .i64 0) (.int .i64 0)
     refine hK.out _ _ (HS6.out _ hBF) (fun hHeld => ?_)
     clear hK K hHeld e11_0 f11_0 e11_1 f11_1 e11_2 f11_2 e11_3 f11_3 e11_4 f11_4 e11_5 f11_5 e11_6 f11_6 e11_7 f11_7
     try simp only [Act.put, zI, zO, zS]
     refine wpAnyH_done (by kernel_rfl) ?_ _
     go_wp2_with fail
     go_meet
     case rel => exact ⟨V0.heap.size, W9.heap.size, A2, c2, rfl, by omega, hNF, hBF⟩
 case rest =>
 obtain ⟨T8, bS, A2, c2, rfl, hT6, hNF, hbx⟩ := hcut
 have HT8 : Hid (V.heap.size ≤ T8 ∧ w1.heap.size ≤ T8) := Lib.hid ⟨by have := HB6.out.size; omega, by have := HB16.out.size; omega⟩
 clear hT6
 have HBc := Lib.hid (HB6.out.trans (hbx.mono HB6.out.size))
 have HB1c := Lib.hid (bstep HB16.out hbx)
 have HNF := Lib.hid hNF
 obtain ⟨y1, y2, y3, y5, y6, y7, y8⟩ := HXc.out wc HBc.out
 clear hNF hbx
 cases hl : x.lands with
 | false =>
  rw [hl] at y8
  rw [if_neg (by rintro ⟨h, _⟩; rw [hl] at h; cases h)] at HEq
  have HLd : Hid ((0 : Int) = if x.lands = true then landP S c.fl x.call x.wake x.tube else 0) := Lib.hid (by rw [hl]; rfl)
  have HL := Lib.hid hl
  clear hl
  go_upto_region 21 with ((go_at_call 107; go_loud (refine (HFind.out wc HBc.out).mono ?_; rintro e w10 ⟨rfl, hb10⟩; have HB10 := Lib.hid (HBc.out.trans (hb10.mono HBc.out.size)); have HB110 := Lib.hid (bstep HB1c.out hb10); have HN10 := Lib.hid (HNF.out.below hb10); have c19 := (HCe.out w10 (HBc.out.trans (hb10.mono HBc.out.size))).2; clear hb10)))
  clear y1 y2 y3 y5 y6 y7 y8
  have t0 := cell_of_row _ _ 0 _ _ _ HN10.out.2.2.2.1
  have t1 := cell_of_row _ _ 1 _ _ _ HN10.out.2.2.2.1
  have t2 := cell_of_row _ _ 2 _ _ _ HN10.out.2.2.2.1
  have t3 := cell_of_row _ _ 3 _ _ _ HN10.out.2.2.2.1
  have t4 := cell_of_row _ _ 4 _ _ _ HN10.out.2.2.2.1
  have t5 := cell_of_row _ _ 5 _ _ _ HN10.out.2.2.2.1
  have t6 := cell_of_row _ _ 6 _ _ _ HN10.out.2.2.2.1
  have t7 := cell_of_row _ _ 7 _ _ _ HN10.out.2.2.2.1
  simp only [List.getElem?_toArray, List.getElem?_cons_zero, List.getElem?_cons_succ] at t0 t1 t2 t3 t4 t5 t6 t7
  have gl10 : g < w10.heap.size := (HM.out w10 HB10.out).bd g (HM.out w10 HB10.out).fg
  have HF19 := Lib.hid (HFz.out w10 HB10.out)
  have HC20 := Lib.hid (HCe.out w10 HB10.out)
  have tl8 : T8 < w10.heap.size := HN10.out.lt
  have HRow := Lib.hid (fun k (hk : (Value.slice fA nf fc).ownBlock = some k) => (show k < w.heap.size from HFb0.out k ((HM.out w10 HB10.out).fown.2 k (by rw [HFv.out]; exact hk))))
  have HGne : Hid ((Value.slice fA nf fc).ownBlock ≠ some g) := Lib.hid (by have := (HM.out w10 HB10.out).fown.other (HM.out w10 HB10.out).cs (by decide); rw [HFv.out] at this; exact this)
  have hT8w : w.heap.size ≤ T8 := HN10.out.1
  have HIx := Lib.hid (fun (W : World) (hb : Below w10.heap.size w10 W) (vb : Nat) (hv1 : w10.heap.size ≤ vb) (hvb : W.heap[vb]? = some (.cells #[.string x.call, .int .i64 x.wake, .int .i64 x.slot, .bool false, .slice (some ⟨bS, 0, none⟩) 1 1, .slice none 0 0, .int .i64 0, .int .i64 0] 46 (0, 0))) => (HIns.out W (HB10.out.trans (hb.mono HB10.out.size)) vb ⟨x.call, x.wake, x.slot, false, some ⟨bS, 0, none⟩, 1, 1, none, 0, 0, 0, 0⟩ hvb (fun e => by have := HRow.out vb e; have := HB10.out.size; have := HBV.out.size; omega)).mono fun e W2 hh => (show ∃ g6 c6, e = .returned (.slice (some ⟨g6, 0, none⟩) (nf + 1) c6) ∧ W2.ownsRow 0 46 8 (.slice (some ⟨g6, 0, none⟩) (nf + 1) c6) (nf + 1) ((rowsV fmV y.fs).take (lowO c.ow x.call * 8) ++ fmV ⟨x.call, x.wake, x.slot, false, some ⟨bS, 0, none⟩, 1, 1, none, 0, 0, 0, 0⟩ ++ (rowsV fmV y.fs).drop (lowO c.ow x.call * 8)) ∧ w10.grownBy W2 (Value.slice fA nf fc).ownBlock ∧ ((Value.slice fA nf fc).ownBlock = some g6 ∨ w10.heap.size ≤ g6) from by
   obtain ⟨g6, c6, r1, r2, r3, r4, r5⟩ := hh
   exact ⟨g6, c6, r1, r2, grown_trans ⟨hb.os, hb.tape, hb.output, hb.size, fun k hk _ => hb.block k hk⟩ r3, r4.imp id (fun e => by have := hb.size; omega)⟩))
  have hT8g : T8 ≠ g := by have := HFb0.out g (HM.out w10 HB10.out).fg; omega
  obtain ⟨low, hlow⟩ : ∃ low, lowO c.ow x.call = low := ⟨_, rfl⟩
  have HLow := Lib.hid hlow
  rw [hlow] at HIx ⊢
  clear hlow
  have hza : Below w10.heap.size w10 (w10.alloc (.cells #[.string x.call, .int .i64 x.wake, .int .i64 x.slot, .bool false, .slice (some ⟨bS, 0, none⟩) 1 1, .slice none 0 0, .int .i64 0, .int .i64 0] 46)).drew := ((Below.refl _ _).alloc (Nat.le_refl _) _).drew
  have HIa := Lib.hid (HIx.out _ hza w10.heap.size (Nat.le_refl _) (heap_alloc_new w10 _))
  clear hza HIx
  have HT : Hid (∀ W : World, W.heap[T8]? = w10.heap[T8]? → W.cell? ⟨T8, 0, none⟩ = some (.string x.call) ∧ W.cell? ⟨T8, 1, none⟩ = some (.int .i64 x.wake) ∧ W.cell? ⟨T8, 2, none⟩ = some (.int .i64 x.slot) ∧ W.cell? ⟨T8, 3, none⟩ = some (.bool false) ∧ W.cell? ⟨T8, 4, none⟩ = some (.slice (some ⟨bS, 0, none⟩) 1 1) ∧ W.cell? ⟨T8, 5, none⟩ = some (.slice none 0 0) ∧ W.cell? ⟨T8, 6, none⟩ = some (.int .i64 0) ∧ W.cell? ⟨T8, 7, none⟩ = some (.int .i64 0)) := Lib.hid (fun W hW => by
   rw [HL.out] at t3
   exact ⟨(World.cell?_of_block (a := ⟨T8, 0, none⟩) hW).trans t0, (World.cell?_of_block (a := ⟨T8, 1, none⟩) hW).trans t1, (World.cell?_of_block (a := ⟨T8, 2, none⟩) hW).trans t2, (World.cell?_of_block (a := ⟨T8, 3, none⟩) hW).trans t3, (World.cell?_of_block (a := ⟨T8, 4, none⟩) hW).trans t4, (World.cell?_of_block (a := ⟨T8, 5, none⟩) hW).trans t5, (World.cell?_of_block (a := ⟨T8, 6, none⟩) hW).trans t6, (World.cell?_of_block (a := ⟨T8, 7, none⟩) hW).trans t7⟩)
  rw [HL.out] at t3
  refine wp_region_held_drew (S := (fun W => W.cell? ⟨T8, 0, none⟩ = some (.string x.call) ∧ W.cell? ⟨T8, 1, none⟩ = some (.int .i64 x.wake) ∧ W.cell? ⟨T8, 2, none⟩ = some (.int .i64 x.slot) ∧ W.cell? ⟨T8, 3, none⟩ = some (.bool false) ∧ W.cell? ⟨T8, 4, none⟩ = some (.slice (some ⟨bS, 0, none⟩) 1 1) ∧ W.cell? ⟨T8, 5, none⟩ = some (.slice none 0 0) ∧ W.cell? ⟨T8, 6, none⟩ = some (.int .i64 0) ∧ W.cell? ⟨T8, 7, none⟩ = some (.int .i64 0))) (by kernel_rfl) (HT.out _ (by first | rfl | exact (World.grownBy_alloc w10 _ none).block T8 tl8 (by simp))) (fun hHeld => ?_)
  refine wpAnyH_take (i := 0) (oi := ⟨some 110, _, _, _, _, _⟩) (v := ?z627u0) rfl (by kernel_rfl) (by kernel_rfl) (by kernel_rfl) (fun _ _ _ h => h) (Or.inl ⟨by rfl, ?z627p0⟩) hHeld ?z627q0
  case z627p0 => (intro W hSw; (try dsimp only at hSw); (try obtain ⟨s0, s1, s2, s3, s4, s5, s6, s7⟩ := hSw); go_simp; try with_reducible rfl)
  try simp only [Act.put, zI, zO, zS]
  refine wpAnyH_take (i := 1) (oi := ⟨some 111, _, _, _, _, _⟩) (v := ?z627u1) rfl (by kernel_rfl) (by kernel_rfl) (by kernel_rfl) (fun _ _ _ h => h) (Or.inl ⟨by rfl, ?z627p1⟩) hHeld ?z627q1
  case z627p1 => (intro W hSw; (try dsimp only at hSw); (try obtain ⟨s0, s1, s2, s3, s4, s5, s6, s7⟩ := hSw); go_simp; try with_reducible rfl)
  try simp only [Act.put, zI, zO, zS]
  refine wpAnyH_take (i := 2) (oi := ⟨some 112, _, _, _, _, _⟩) (v := ?z627u2) rfl (by kernel_rfl) (by kernel_rfl) (by kernel_rfl) (fun _ _ _ h => h) (Or.inl ⟨by rfl, ?z627p2⟩) hHeld ?z627q2
  case z627p2 => (intro W hSw; (try dsimp only at hSw); (try obtain ⟨s0, s1, s2, s3, s4, s5, s6, s7⟩ := hSw); go_simp; try with_reducible rfl)
  try simp only [Act.put, zI, zO, zS]
  refine wpAnyH_take (i := 3) (oi := ⟨some 113, _, _, _, _, _⟩) (v := ?z627u3) rfl (by kernel_rfl) (by kernel_rfl) (by kernel_rfl) (fun _ _ _ h => h) (Or.inl ⟨by rfl, ?z627p3⟩) hHeld ?z627q3
  case z627p3 => (intro W hSw; (try dsimp only at hSw); (try obtain ⟨s0, s1, s2, s3, s4, s5, s6, s7⟩ := hSw); go_simp; try with_reducible rfl)
  try simp only [Act.put, zI, zO, zS]
  refine wpAnyH_take (i := 5) (oi := ⟨some 115, _, _, _, _, _⟩) (v := ?z627u5) rfl (by kernel_rfl) (by kernel_rfl) (by kernel_rfl) (fun _ _ _ h => h) (Or.inl ⟨by rfl, ?z627p5⟩) hHeld ?z627q5
  case z627p5 => (intro W hSw; (try dsimp only at hSw); (try obtain ⟨s0, s1, s2, s3, s4, s5, s6, s7⟩ := hSw); go_simp; try with_reducible rfl)
  try simp only [Act.put, zI, zO, zS]
  refine wpAnyH_take (i := 6) (oi := ⟨some 116, _, _, _, _, _⟩) (v := ?z627u6) rfl (by kernel_rfl) (by kernel_rfl) (by kernel_rfl) (fun _ _ _ h => h) (Or.inl ⟨by rfl, ?z627p6⟩) hHeld ?z627q6
  case z627p6 => (intro W hSw; (try dsimp only at hSw); (try obtain ⟨s0, s1, s2, s3, s4, s5, s6, s7⟩ := hSw); go_simp; try with_reducible rfl)
  try simp only [Act.put, zI, zO, zS]
  refine wpAnyH_ready (rs := [4, 7]) (by kernel_rfl) (by simp) ?_
  refine (AllReadyH.cons (o := ⟨some 114, _, _, _, _, _⟩) rfl (fun K hK => ?_) (AllReadyH.cons (o := ⟨some 117, _, _, _, _, _⟩) rfl (fun K hK => ?_) AllReadyH.nil))
  ·go_simp
   refine hK.out _ _ (HT.out _ (by first | rfl | exact (World.grownBy_alloc w10 _ none).block T8 tl8 (by simp))) (fun hHeld => ?_)
   clear hK K
   try simp only [Act.put, zI, zO, zS]
   refine wpAnyH_ready (rs := [7]) (by kernel_rfl) (by simp) ?_
   refine (AllReadyH.cons (o := ⟨some 117, _, _, _, _, _⟩) rfl (fun K hK => ?_) AllReadyH.nil)
   go_simp
   refine hK.out _ _ (HT.out _ (by first | rfl | exact (World.grownBy_alloc w10 _ none).block T8 tl8 (by simp))) (fun hHeld => ?_)
   clear hK K
   try simp only [Act.put, zI, zO, zS]
   refine wpAnyH_ready (rs := [8]) (by kernel_rfl) (by simp) ?_
   refine (AllReadyH.cons (o := ⟨some 118, _, _, _, _, _⟩) rfl (fun K hK => ?_) AllReadyH.nil)
   go_simp
   go_at_call 108
   (with_reducible refine HIa.out.mono ?_)
   rintro e w11 ⟨g6, c6, rfl, ho11, hg11, hat11⟩
   have hgg : w11.heap[g]? = w10.heap[g]? := hg11.block g gl10 (fun e => HGne.out e.symm)
   have v19 := (World.cell?_of_block (a := ⟨g, 19, none⟩) hgg).trans HC20.out.2
   have z19 := (World.frozen?_of_block (a := ⟨g, 19, none⟩) hgg).trans (HF19.out 19)
   have v20 := (World.cell?_of_block (a := ⟨g, 20, none⟩) hgg).trans HC20.out.1
   have z20 := (World.frozen?_of_block (a := ⟨g, 20, none⟩) hgg).trans (HF19.out 20)
   have h8 : w11.heap[T8]? = w10.heap[T8]? := hg11.block T8 tl8 (fun e => (by have := HRow.out T8 e.symm; omega))
   obtain ⟨m0, m1, m2, m3, m4, m5, m6, m7⟩ := HT.out w11 h8
   have HO11 := Lib.hid ho11
   have HG11 := Lib.hid hg11
   have HA11 := Lib.hid hat11
   clear ho11 hg11 hat11
   refine hK.out _ _ ⟨m0, m1, m2, m3, m4, m5, m6, m7⟩ (fun hHeld => ?_)
   clear hK K
   try simp only [Act.put, zI, zO, zS]
   refine wpAnyH_take (i := 9) (oi := ⟨some 119, _, _, _, _, _⟩) (v := ?z627au9) rfl (by kernel_rfl) (by kernel_rfl) (by kernel_rfl) (fun _ _ _ h => h) (Or.inl ⟨by rfl, ?z627ap9⟩) hHeld ?z627aq9
   case z627ap9 => (intro W hSw; (try dsimp only at hSw); (try obtain ⟨s0, s1, s2, s3, s4, s5, s6, s7⟩ := hSw); go_simp; try with_reducible rfl)
   try simp only [Act.put, zI, zO, zS]
   refine wpAnyH_take (i := 10) (oi := ⟨some 120, _, _, _, _, _⟩) (v := ?z627au10) rfl (by kernel_rfl) (by kernel_rfl) (by kernel_rfl) (fun _ _ _ h => h) (Or.inl ⟨by rfl, ?z627ap10⟩) hHeld ?z627aq10
   case z627ap10 => (intro W hSw; (try dsimp only at hSw); (try obtain ⟨s0, s1, s2, s3, s4, s5, s6, s7⟩ := hSw); go_simp; try with_reducible rfl)
   try simp only [Act.put, zI, zO, zS]
   refine wpAnyH_ready (rs := [11]) (by kernel_rfl) (by simp) ?_
   refine (AllReadyH.cons (o := ⟨none, _, _, _, _, _⟩) rfl (fun K hK => ?_) AllReadyH.nil)
   go_simp
   refine hK.out _ _ (HT.out _ ((Below.heap_setCell _ _ _ _ hT8g).trans h8)) (fun hHeld => ?_)
   clear hK K
   try simp only [Act.put, zI, zO, zS]
   refine wpAnyH_done (by kernel_rfl) ?_ _
   all_goals go_wp2_with fail
   all_goals (try go_ret)
   all_goals
    obtain rfl : nf = c.fl.length := HFh.out
    obtain rfl : low = lowO c.ow x.call := HLow.out.symm
    have hf := HN10.out.flm HLd.out
    rw [HL.out] at hf
    have hfin := HFN.out w10 w11 HB10.out A1 V.heap.size c1 (by have := HZV.out; omega) (own_below HO.out HB110.out (Nat.le_refl _)) _ [⟨A2, x.tube.length, c2⟩] hf g6 c6 HG11.out HA11.out HO11.out
    rw [HYes.out HEq.out] at hfin
    clear hf
    exact hfin
  ·go_simp
   refine hK.out _ _ (HT.out _ (by first | rfl | exact (World.grownBy_alloc w10 _ none).block T8 tl8 (by simp))) (fun hHeld => ?_)
   clear hK K
   try simp only [Act.put, zI, zO, zS]
   refine wpAnyH_ready (rs := [4]) (by kernel_rfl) (by simp) ?_
   refine (AllReadyH.cons (o := ⟨some 114, _, _, _, _, _⟩) rfl (fun K hK => ?_) AllReadyH.nil)
   go_simp
   refine hK.out _ _ (HT.out _ (by first | rfl | exact (World.grownBy_alloc w10 _ none).block T8 tl8 (by simp))) (fun hHeld => ?_)
   clear hK K
   try simp only [Act.put, zI, zO, zS]
   refine wpAnyH_ready (rs := [8]) (by kernel_rfl) (by simp) ?_
   refine (AllReadyH.cons (o := ⟨some 118, _, _, _, _, _⟩) rfl (fun K hK => ?_) AllReadyH.nil)
   go_simp
   go_at_call 108
   (with_reducible refine HIa.out.mono ?_)
   rintro e w11 ⟨g6, c6, rfl, ho11, hg11, hat11⟩
   have hgg : w11.heap[g]? = w10.heap[g]? := hg11.block g gl10 (fun e => HGne.out e.symm)
   have v19 := (World.cell?_of_block (a := ⟨g, 19, none⟩) hgg).trans HC20.out.2
   have z19 := (World.frozen?_of_block (a := ⟨g, 19, none⟩) hgg).trans (HF19.out 19)
   have v20 := (World.cell?_of_block (a := ⟨g, 20, none⟩) hgg).trans HC20.out.1
   have z20 := (World.frozen?_of_block (a := ⟨g, 20, none⟩) hgg).trans (HF19.out 20)
   have h8 : w11.heap[T8]? = w10.heap[T8]? := hg11.block T8 tl8 (fun e => (by have := HRow.out T8 e.symm; omega))
   obtain ⟨m0, m1, m2, m3, m4, m5, m6, m7⟩ := HT.out w11 h8
   have HO11 := Lib.hid ho11
   have HG11 := Lib.hid hg11
   have HA11 := Lib.hid hat11
   clear ho11 hg11 hat11
   refine hK.out _ _ ⟨m0, m1, m2, m3, m4, m5, m6, m7⟩ (fun hHeld => ?_)
   clear hK K
   try simp only [Act.put, zI, zO, zS]
   refine wpAnyH_take (i := 9) (oi := ⟨some 119, _, _, _, _, _⟩) (v := ?z627bu9) rfl (by kernel_rfl) (by kernel_rfl) (by kernel_rfl) (fun _ _ _ h => h) (Or.inl ⟨by rfl, ?z627bp9⟩) hHeld ?z627bq9
   case z627bp9 => (intro W hSw; (try dsimp only at hSw); (try obtain ⟨s0, s1, s2, s3, s4, s5, s6, s7⟩ := hSw); go_simp; try with_reducible rfl)
   try simp only [Act.put, zI, zO, zS]
   refine wpAnyH_take (i := 10) (oi := ⟨some 120, _, _, _, _, _⟩) (v := ?z627bu10) rfl (by kernel_rfl) (by kernel_rfl) (by kernel_rfl) (fun _ _ _ h => h) (Or.inl ⟨by rfl, ?z627bp10⟩) hHeld ?z627bq10
   case z627bp10 => (intro W hSw; (try dsimp only at hSw); (try obtain ⟨s0, s1, s2, s3, s4, s5, s6, s7⟩ := hSw); go_simp; try with_reducible rfl)
   try simp only [Act.put, zI, zO, zS]
   refine wpAnyH_ready (rs := [11]) (by kernel_rfl) (by simp) ?_
   refine (AllReadyH.cons (o := ⟨none, _, _, _, _, _⟩) rfl (fun K hK => ?_) AllReadyH.nil)
   go_simp
   refine hK.out _ _ (HT.out _ ((Below.heap_setCell _ _ _ _ hT8g).trans h8)) (fun hHeld => ?_)
   clear hK K
   try simp only [Act.put, zI, zO, zS]
   refine wpAnyH_done (by kernel_rfl) ?_ _
   all_goals go_wp2_with fail
   all_goals (try go_ret)
   all_goals
    obtain rfl : nf = c.fl.length := HFh.out
    obtain rfl : low = lowO c.ow x.call := HLow.out.symm
    have hf := HN10.out.flm HLd.out
    rw [HL.out] at hf
    have hfin := HFN.out w10 w11 HB10.out A1 V.heap.size c1 (by have := HZV.out; omega) (own_below HO.out HB110.out (Nat.le_refl _)) _ [⟨A2, x.tube.length, c2⟩] hf g6 c6 HG11.out HA11.out HO11.out
    rw [HYes.out HEq.out] at hfin
    clear hf
    exact hfin
 | true =>
  rw [hl] at y8
  have HLn := Lib.hid (HLand.out wc HBc.out x.wake HWk.out HTok.out)
  obtain ⟨ld, hld⟩ : ∃ ld, landP S c.fl x.call x.wake x.tube = ld := ⟨_, rfl⟩
  rw [hld] at HLn HEq
  have HLd : Hid (ld = if x.lands = true then landP S c.fl x.call x.wake x.tube else 0) := Lib.hid (by rw [hl, if_pos rfl, hld])
  have HL := Lib.hid hl
  clear hl hld
  have arm : True := trivial
  by_cases q9 : x.slot < ld
  ·have e9 : decide (x.slot < ld) = true := decide_eq_true q9
   rw [if_pos ⟨HL.out, q9⟩] at HEq
   clear q9
   go_wp2_with ((go_at_call 106; go_loud (refine HLn.out.mono ?_; rintro e w9 ⟨rfl, hb9⟩; have hn9 := HNF.out.below hb9; obtain ⟨z1, z2, z3, z5, z6, z7, z8⟩ := HXc.out w9 (HBc.out.trans (hb9.mono HBc.out.size)); have u0 := cell_of_row _ _ 6 _ _ _ hn9.2.2.2.1; have u1 := frozen_of_row _ _ 6 _ _ hn9.2.2.2.1; simp only [List.getElem?_toArray, List.getElem?_cons_zero, List.getElem?_cons_succ] at u0; have hw8 : w.heap.size < T8 := (by have := HT8.out; have := HZV.out; omega); have hw8n : w.heap.size ≠ T8 := (by omega); clear hn9)))
   (try go_ret)
   have hbS : Below V.heap.size V (w9.setCell ⟨T8, 6, none⟩ (.int .i64 ld)) := (HBc.out.trans (hb9.mono HBc.out.size)).setCell (p := ⟨T8, 6, none⟩) (by show V.heap.size ≤ T8; have := HT8.out; omega) _
   exact HNo.out 18 _ _ (by decide) HEq.out hbS rfl
  have e9 : decide (x.slot < ld) = false := decide_eq_false q9
  rw [if_neg (fun h => q9 h.2)] at HEq
  clear q9
  go_upto_region 20 with ((go_at_call 106; go_loud (refine HLn.out.mono ?_; rintro e w9 ⟨rfl, hb9⟩; have hn9 := HNF.out.below hb9; obtain ⟨z1, z2, z3, z5, z6, z7, z8⟩ := HXc.out w9 (HBc.out.trans (hb9.mono HBc.out.size)); have u0 := cell_of_row _ _ 6 _ _ _ hn9.2.2.2.1; have u1 := frozen_of_row _ _ 6 _ _ hn9.2.2.2.1; simp only [List.getElem?_toArray, List.getElem?_cons_zero, List.getElem?_cons_succ] at u0; have hw8 : w.heap.size < T8 := (by have := HT8.out; have := HZV.out; omega); have hw8n : w.heap.size ≠ T8 := (by omega); clear hn9)))
  obtain ⟨wd, hwd⟩ : ∃ wd, w9.setCell ⟨T8, 6, none⟩ (.int .i64 ld) = wd := ⟨_, rfl⟩
  have HND := Lib.hid (show NewFl w x T8 bS A2 c2 ld wd by rw [← hwd]; exact (HNF.out.below hb9).setLand ld)
  have HBd := Lib.hid (show Below V.heap.size V wd by rw [← hwd]; exact (HBc.out.trans (hb9.mono HBc.out.size)).setCell (p := ⟨T8, 6, none⟩) (by show V.heap.size ≤ T8; have := HT8.out; omega) _)
  have HB1d := Lib.hid (show Below w1.heap.size w1 wd by rw [← hwd]; exact (bstep HB1c.out hb9).setCell (p := ⟨T8, 6, none⟩) (by show w1.heap.size ≤ T8; have := HT8.out; omega) _)
  rw [hwd]
  clear hwd hb9 u0 u1
  obtain ⟨y1, y2, y3, y5, y6, y7, y8⟩ := HXc.out wd HBd.out
  rw [HL.out] at y8
  go_upto_region 21 with ((go_at_call 107; go_loud (refine (HFind.out wd HBd.out).mono ?_; rintro e w10 ⟨rfl, hb10⟩; have HB10 := Lib.hid (HBd.out.trans (hb10.mono HBd.out.size)); have HB110 := Lib.hid (bstep HB1d.out hb10); have HN10 := Lib.hid (HND.out.below hb10); have c19 := (HCe.out w10 (HBd.out.trans (hb10.mono HBd.out.size))).2; clear hb10)))
  clear y1 y2 y3 y5 y6 y7 y8
  have t0 := cell_of_row _ _ 0 _ _ _ HN10.out.2.2.2.1
  have t1 := cell_of_row _ _ 1 _ _ _ HN10.out.2.2.2.1
  have t2 := cell_of_row _ _ 2 _ _ _ HN10.out.2.2.2.1
  have t3 := cell_of_row _ _ 3 _ _ _ HN10.out.2.2.2.1
  have t4 := cell_of_row _ _ 4 _ _ _ HN10.out.2.2.2.1
  have t5 := cell_of_row _ _ 5 _ _ _ HN10.out.2.2.2.1
  have t6 := cell_of_row _ _ 6 _ _ _ HN10.out.2.2.2.1
  have t7 := cell_of_row _ _ 7 _ _ _ HN10.out.2.2.2.1
  simp only [List.getElem?_toArray, List.getElem?_cons_zero, List.getElem?_cons_succ] at t0 t1 t2 t3 t4 t5 t6 t7
  have gl10 : g < w10.heap.size := (HM.out w10 HB10.out).bd g (HM.out w10 HB10.out).fg
  have HF19 := Lib.hid (HFz.out w10 HB10.out)
  have HC20 := Lib.hid (HCe.out w10 HB10.out)
  have tl8 : T8 < w10.heap.size := HN10.out.lt
  have HRow := Lib.hid (fun k (hk : (Value.slice fA nf fc).ownBlock = some k) => (show k < w.heap.size from HFb0.out k ((HM.out w10 HB10.out).fown.2 k (by rw [HFv.out]; exact hk))))
  have HGne : Hid ((Value.slice fA nf fc).ownBlock ≠ some g) := Lib.hid (by have := (HM.out w10 HB10.out).fown.other (HM.out w10 HB10.out).cs (by decide); rw [HFv.out] at this; exact this)
  have hT8w : w.heap.size ≤ T8 := HN10.out.1
  have HIx := Lib.hid (fun (W : World) (hb : Below w10.heap.size w10 W) (vb : Nat) (hv1 : w10.heap.size ≤ vb) (hvb : W.heap[vb]? = some (.cells #[.string x.call, .int .i64 x.wake, .int .i64 x.slot, .bool true, .slice (some ⟨bS, 0, none⟩) 1 1, .slice none 0 0, .int .i64 ld, .int .i64 0] 46 (0, 0))) => (HIns.out W (HB10.out.trans (hb.mono HB10.out.size)) vb ⟨x.call, x.wake, x.slot, true, some ⟨bS, 0, none⟩, 1, 1, none, 0, 0, ld, 0⟩ hvb (fun e => by have := HRow.out vb e; have := HB10.out.size; have := HBV.out.size; omega)).mono fun e W2 hh => (show ∃ g6 c6, e = .returned (.slice (some ⟨g6, 0, none⟩) (nf + 1) c6) ∧ W2.ownsRow 0 46 8 (.slice (some ⟨g6, 0, none⟩) (nf + 1) c6) (nf + 1) ((rowsV fmV y.fs).take (lowO c.ow x.call * 8) ++ fmV ⟨x.call, x.wake, x.slot, true, some ⟨bS, 0, none⟩, 1, 1, none, 0, 0, ld, 0⟩ ++ (rowsV fmV y.fs).drop (lowO c.ow x.call * 8)) ∧ w10.grownBy W2 (Value.slice fA nf fc).ownBlock ∧ ((Value.slice fA nf fc).ownBlock = some g6 ∨ w10.heap.size ≤ g6) from by
   obtain ⟨g6, c6, r1, r2, r3, r4, r5⟩ := hh
   exact ⟨g6, c6, r1, r2, grown_trans ⟨hb.os, hb.tape, hb.output, hb.size, fun k hk _ => hb.block k hk⟩ r3, r4.imp id (fun e => by have := hb.size; omega)⟩))
  have hT8g : T8 ≠ g := by have := HFb0.out g (HM.out w10 HB10.out).fg; omega
  obtain ⟨low, hlow⟩ : ∃ low, lowO c.ow x.call = low := ⟨_, rfl⟩
  have HLow := Lib.hid hlow
  rw [hlow] at HIx ⊢
  clear hlow
  have hza : Below w10.heap.size w10 (w10.alloc (.cells #[.string x.call, .int .i64 x.wake, .int .i64 x.slot, .bool true, .slice (some ⟨bS, 0, none⟩) 1 1, .slice none 0 0, .int .i64 ld, .int .i64 0] 46)).drew := ((Below.refl _ _).alloc (Nat.le_refl _) _).drew
  have HIa := Lib.hid (HIx.out _ hza w10.heap.size (Nat.le_refl _) (heap_alloc_new w10 _))
  clear hza HIx
  have HT : Hid (∀ W : World, W.heap[T8]? = w10.heap[T8]? → W.cell? ⟨T8, 0, none⟩ = some (.string x.call) ∧ W.cell? ⟨T8, 1, none⟩ = some (.int .i64 x.wake) ∧ W.cell? ⟨T8, 2, none⟩ = some (.int .i64 x.slot) ∧ W.cell? ⟨T8, 3, none⟩ = some (.bool true) ∧ W.cell? ⟨T8, 4, none⟩ = some (.slice (some ⟨bS, 0, none⟩) 1 1) ∧ W.cell? ⟨T8, 5, none⟩ = some (.slice none 0 0) ∧ W.cell? ⟨T8, 6, none⟩ = some (.int .i64 ld) ∧ W.cell? ⟨T8, 7, none⟩ = some (.int .i64 0)) := Lib.hid (fun W hW => by
   rw [HL.out] at t3
   exact ⟨(World.cell?_of_block (a := ⟨T8, 0, none⟩) hW).trans t0, (World.cell?_of_block (a := ⟨T8, 1, none⟩) hW).trans t1, (World.cell?_of_block (a := ⟨T8, 2, none⟩) hW).trans t2, (World.cell?_of_block (a := ⟨T8, 3, none⟩) hW).trans t3, (World.cell?_of_block (a := ⟨T8, 4, none⟩) hW).trans t4, (World.cell?_of_block (a := ⟨T8, 5, none⟩) hW).trans t5, (World.cell?_of_block (a := ⟨T8, 6, none⟩) hW).trans t6, (World.cell?_of_block (a := ⟨T8, 7, none⟩) hW).trans t7⟩)
  rw [HL.out] at t3
  refine wp_region_held_drew (S := (fun W => W.cell? ⟨T8, 0, none⟩ = some (.string x.call) ∧ W.cell? ⟨T8, 1, none⟩ = some (.int .i64 x.wake) ∧ W.cell? ⟨T8, 2, none⟩ = some (.int .i64 x.slot) ∧ W.cell? ⟨T8, 3, none⟩ = some (.bool true) ∧ W.cell? ⟨T8, 4, none⟩ = some (.slice (some ⟨bS, 0, none⟩) 1 1) ∧ W.cell? ⟨T8, 5, none⟩ = some (.slice none 0 0) ∧ W.cell? ⟨T8, 6, none⟩ = some (.int .i64 ld) ∧ W.cell? ⟨T8, 7, none⟩ = some (.int .i64 0))) (by kernel_rfl) (HT.out _ (by first | rfl | exact (World.grownBy_alloc w10 _ none).block T8 tl8 (by simp))) (fun hHeld => ?_)
  refine wpAnyH_take (i := 0) (oi := ⟨some 110, _, _, _, _, _⟩) (v := ?z701u0) rfl (by kernel_rfl) (by kernel_rfl) (by kernel_rfl) (fun _ _ _ h => h) (Or.inl ⟨by rfl, ?z701p0⟩) hHeld ?z701q0
  case z701p0 => (intro W hSw; (try dsimp only at hSw); (try obtain ⟨s0, s1, s2, s3, s4, s5, s6, s7⟩ := hSw); go_simp; try with_reducible rfl)
  try simp only [Act.put, zI, zO, zS]
  refine wpAnyH_take (i := 1) (oi := ⟨some 111, _, _, _, _, _⟩) (v := ?z701u1) rfl (by kernel_rfl) (by kernel_rfl) (by kernel_rfl) (fun _ _ _ h => h) (Or.inl ⟨by rfl, ?z701p1⟩) hHeld ?z701q1
  case z701p1 => (intro W hSw; (try dsimp only at hSw); (try obtain ⟨s0, s1, s2, s3, s4, s5, s6, s7⟩ := hSw); go_simp; try with_reducible rfl)
  try simp only [Act.put, zI, zO, zS]
  refine wpAnyH_take (i := 2) (oi := ⟨some 112, _, _, _, _, _⟩) (v := ?z701u2) rfl (by kernel_rfl) (by kernel_rfl) (by kernel_rfl) (fun _ _ _ h => h) (Or.inl ⟨by rfl, ?z701p2⟩) hHeld ?z701q2
  case z701p2 => (intro W hSw; (try dsimp only at hSw); (try obtain ⟨s0, s1, s2, s3, s4, s5, s6, s7⟩ := hSw); go_simp; try with_reducible rfl)
  try simp only [Act.put, zI, zO, zS]
  refine wpAnyH_take (i := 3) (oi := ⟨some 113, _, _, _, _, _⟩) (v := ?z701u3) rfl (by kernel_rfl) (by kernel_rfl) (by kernel_rfl) (fun _ _ _ h => h) (Or.inl ⟨by rfl, ?z701p3⟩) hHeld ?z701q3
  case z701p3 => (intro W hSw; (try dsimp only at hSw); (try obtain ⟨s0, s1, s2, s3, s4, s5, s6, s7⟩ := hSw); go_simp; try with_reducible rfl)
  try simp only [Act.put, zI, zO, zS]
  refine wpAnyH_take (i := 5) (oi := ⟨some 115, _, _, _, _, _⟩) (v := ?z701u5) rfl (by kernel_rfl) (by kernel_rfl) (by kernel_rfl) (fun _ _ _ h => h) (Or.inl ⟨by rfl, ?z701p5⟩) hHeld ?z701q5
  case z701p5 => (intro W hSw; (try dsimp only at hSw); (try obtain ⟨s0, s1, s2, s3, s4, s5, s6, s7⟩ := hSw); go_simp; try with_reducible rfl)
  try simp only [Act.put, zI, zO, zS]
  refine wpAnyH_take (i := 6) (oi := ⟨some 116, _, _, _, _, _⟩) (v := ?z701u6) rfl (by kernel_rfl) (by kernel_rfl) (by kernel_rfl) (fun _ _ _ h => h) (Or.inl ⟨by rfl, ?z701p6⟩) hHeld ?z701q6
  case z701p6 => (intro W hSw; (try dsimp only at hSw); (try obtain ⟨s0, s1, s2, s3, s4, s5, s6, s7⟩ := hSw); go_simp; try with_reducible rfl)
  try simp only [Act.put, zI, zO, zS]
  refine wpAnyH_ready (rs := [4, 7]) (by kernel_rfl) (by simp) ?_
  refine (AllReadyH.cons (o := ⟨some 114, _, _, _, _, _⟩) rfl (fun K hK => ?_) (AllReadyH.cons (o := ⟨some 117, _, _, _, _, _⟩) rfl (fun K hK => ?_) AllReadyH.nil))
  ·go_simp
   refine hK.out _ _ (HT.out _ (by first | rfl | exact (World.grownBy_alloc w10 _ none).block T8 tl8 (by simp))) (fun hHeld => ?_)
   clear hK K
   try simp only [Act.put, zI, zO, zS]
   refine wpAnyH_ready (rs := [7]) (by kernel_rfl) (by simp) ?_
   refine (AllReadyH.cons (o := ⟨some 117, _, _, _, _, _⟩) rfl (fun K hK => ?_) AllReadyH.nil)
   go_simp
   refine hK.out _ _ (HT.out _ (by first | rfl | exact (World.grownBy_alloc w10 _ none).block T8 tl8 (by simp))) (fun hHeld => ?_)
   clear hK K
   try simp only [Act.put, zI, zO, zS]
   refine wpAnyH_ready (rs := [8]) (by kernel_rfl) (by simp) ?_
   refine (AllReadyH.cons (o := ⟨some 118, _, _, _, _, _⟩) rfl (fun K hK => ?_) AllReadyH.nil)
   go_simp
   go_at_call 108
   (with_reducible refine HIa.out.mono ?_)
   rintro e w11 ⟨g6, c6, rfl, ho11, hg11, hat11⟩
   have hgg : w11.heap[g]? = w10.heap[g]? := hg11.block g gl10 (fun e => HGne.out e.symm)
   have v19 := (World.cell?_of_block (a := ⟨g, 19, none⟩) hgg).trans HC20.out.2
   have z19 := (World.frozen?_of_block (a := ⟨g, 19, none⟩) hgg).trans (HF19.out 19)
   have v20 := (World.cell?_of_block (a := ⟨g, 20, none⟩) hgg).trans HC20.out.1
   have z20 := (World.frozen?_of_block (a := ⟨g, 20, none⟩) hgg).trans (HF19.out 20)
   have h8 : w11.heap[T8]? = w10.heap[T8]? := hg11.block T8 tl8 (fun e => (by have := HRow.out T8 e.symm; omega))
   obtain ⟨m0, m1, m2, m3, m4, m5, m6, m7⟩ := HT.out w11 h8
   have HO11 := Lib.hid ho11
   have HG11 := Lib.hid hg11
   have HA11 := Lib.hid hat11
   clear ho11 hg11 hat11
   refine hK.out _ _ ⟨m0, m1, m2, m3, m4, m5, m6, m7⟩ (fun hHeld => ?_)
   clear hK K
   try simp only [Act.put, zI, zO, zS]
   refine wpAnyH_take (i := 9) (oi := ⟨some 119, _, _, _, _, _⟩) (v := ?z701au9) rfl (by kernel_rfl) (by kernel_rfl) (by kernel_rfl) (fun _ _ _ h => h) (Or.inl ⟨by rfl, ?z701ap9⟩) hHeld ?z701aq9
   case z701ap9 => (intro W hSw; (try dsimp only at hSw); (try obtain ⟨s0, s1, s2, s3, s4, s5, s6, s7⟩ := hSw); go_simp; try with_reducible rfl)
   try simp only [Act.put, zI, zO, zS]
   refine wpAnyH_take (i := 10) (oi := ⟨some 120, _, _, _, _, _⟩) (v := ?z701au10) rfl (by kernel_rfl) (by kernel_rfl) (by kernel_rfl) (fun _ _ _ h => h) (Or.inl ⟨by rfl, ?z701ap10⟩) hHeld ?z701aq10
   case z701ap10 => (intro W hSw; (try dsimp only at hSw); (try obtain ⟨s0, s1, s2, s3, s4, s5, s6, s7⟩ := hSw); go_simp; try with_reducible rfl)
   try simp only [Act.put, zI, zO, zS]
   refine wpAnyH_ready (rs := [11]) (by kernel_rfl) (by simp) ?_
   refine (AllReadyH.cons (o := ⟨none, _, _, _, _, _⟩) rfl (fun K hK => ?_) AllReadyH.nil)
   go_simp
   refine hK.out _ _ (HT.out _ ((Below.heap_setCell _ _ _ _ hT8g).trans h8)) (fun hHeld => ?_)
   clear hK K
   try simp only [Act.put, zI, zO, zS]
   refine wpAnyH_done (by kernel_rfl) ?_ _
   all_goals go_wp2_with fail
   all_goals (try go_ret)
   all_goals
    obtain rfl : nf = c.fl.length := HFh.out
    obtain rfl : low = lowO c.ow x.call := HLow.out.symm
    have hf := HN10.out.flm HLd.out
    rw [HL.out] at hf
    have hfin := HFN.out w10 w11 HB10.out A1 V.heap.size c1 (by have := HZV.out; omega) (own_below HO.out HB110.out (Nat.le_refl _)) _ [⟨A2, x.tube.length, c2⟩] hf g6 c6 HG11.out HA11.out HO11.out
    rw [HYes.out HEq.out] at hfin
    clear hf
    exact hfin
  ·go_simp
   refine hK.out _ _ (HT.out _ (by first | rfl | exact (World.grownBy_alloc w10 _ none).block T8 tl8 (by simp))) (fun hHeld => ?_)
   clear hK K
   try simp only [Act.put, zI, zO, zS]
   refine wpAnyH_ready (rs := [4]) (by kernel_rfl) (by simp) ?_
   refine (AllReadyH.cons (o := ⟨some 114, _, _, _, _, _⟩) rfl (fun K hK => ?_) AllReadyH.nil)
   go_simp
   refine hK.out _ _ (HT.out _ (by first | rfl | exact (World.grownBy_alloc w10 _ none).block T8 tl8 (by simp))) (fun hHeld => ?_)
   clear hK K
   try simp only [Act.put, zI, zO, zS]
   refine wpAnyH_ready (rs := [8]) (by kernel_rfl) (by simp) ?_
   refine (AllReadyH.cons (o := ⟨some 118, _, _, _, _, _⟩) rfl (fun K hK => ?_) AllReadyH.nil)
   go_simp
   go_at_call 108
   (with_reducible refine HIa.out.mono ?_)
   rintro e w11 ⟨g6, c6, rfl, ho11, hg11, hat11⟩
   have hgg : w11.heap[g]? = w10.heap[g]? := hg11.block g gl10 (fun e => HGne.out e.symm)
   have v19 := (World.cell?_of_block (a := ⟨g, 19, none⟩) hgg).trans HC20.out.2
   have z19 := (World.frozen?_of_block (a := ⟨g, 19, none⟩) hgg).trans (HF19.out 19)
   have v20 := (World.cell?_of_block (a := ⟨g, 20, none⟩) hgg).trans HC20.out.1
   have z20 := (World.frozen?_of_block (a := ⟨g, 20, none⟩) hgg).trans (HF19.out 20)
   have h8 : w11.heap[T8]? = w10.heap[T8]? := hg11.block T8 tl8 (fun e => (by have := HRow.out T8 e.symm; omega))
   obtain ⟨m0, m1, m2, m3, m4, m5, m6, m7⟩ := HT.out w11 h8
   have HO11 := Lib.hid ho11
   have HG11 := Lib.hid hg11
   have HA11 := Lib.hid hat11
   clear ho11 hg11 hat11
   refine hK.out _ _ ⟨m0, m1, m2, m3, m4, m5, m6, m7⟩ (fun hHeld => ?_)
   clear hK K
   try simp only [Act.put, zI, zO, zS]
   refine wpAnyH_take (i := 9) (oi := ⟨some 119, _, _, _, _, _⟩) (v := ?z701bu9) rfl (by kernel_rfl) (by kernel_rfl) (by kernel_rfl) (fun _ _ _ h => h) (Or.inl ⟨by rfl, ?z701bp9⟩) hHeld ?z701bq9
   case z701bp9 => (intro W hSw; (try dsimp only at hSw); (try obtain ⟨s0, s1, s2, s3, s4, s5, s6, s7⟩ := hSw); go_simp; try with_reducible rfl)
   try simp only [Act.put, zI, zO, zS]
   refine wpAnyH_take (i := 10) (oi := ⟨some 120, _, _, _, _, _⟩) (v := ?z701bu10) rfl (by kernel_rfl) (by kernel_rfl) (by kernel_rfl) (fun _ _ _ h => h) (Or.inl ⟨by rfl, ?z701bp10⟩) hHeld ?z701bq10
   case z701bp10 => (intro W hSw; (try dsimp only at hSw); (try obtain ⟨s0, s1, s2, s3, s4, s5, s6, s7⟩ := hSw); go_simp; try with_reducible rfl)
   try simp only [Act.put, zI, zO, zS]
   refine wpAnyH_ready (rs := [11]) (by kernel_rfl) (by simp) ?_
   refine (AllReadyH.cons (o := ⟨none, _, _, _, _, _⟩) rfl (fun K hK => ?_) AllReadyH.nil)
   go_simp
   refine hK.out _ _ (HT.out _ ((Below.heap_setCell _ _ _ _ hT8g).trans h8)) (fun hHeld => ?_)
   clear hK K
   try simp only [Act.put, zI, zO, zS]
   refine wpAnyH_done (by kernel_rfl) ?_ _
   all_goals go_wp2_with fail
   all_goals (try go_ret)
   all_goals
    obtain rfl : nf = c.fl.length := HFh.out
    obtain rfl : low = lowO c.ow x.call := HLow.out.symm
    have hf := HN10.out.flm HLd.out
    rw [HL.out] at hf
    have hfin := HFN.out w10 w11 HB10.out A1 V.heap.size c1 (by have := HZV.out; omega) (own_below HO.out HB110.out (Nat.le_refl _)) _ [⟨A2, x.tube.length, c2⟩] hf g6 c6 HG11.out HA11.out HO11.out
    rw [HYes.out HEq.out] at hfin
    clear hf
    exact hfin
end Go.Proofs.YtaebebpldkciiaaGreatDoor
